/- Slices of slices thinned out: what the program's and the library's functions hand back. No condition. -/
import Derived.Test.YtodjjabmaleggaaTag
import Derived.Test.YtodjjabmaleggaaClr
import Derived.Test.YtodjjabmaleggaaVio
set_option linter.unusedSimpArgs false
set_option linter.unusedVariables false
set_option maxHeartbeats 2000000
namespace Go.Proofs.Ytodjjabmaleggaa
open Go.ChangeShapes Go.WideShapes Go.ChangeAt Go.RowKit

theorem len_dII (l : List (List Int)) : (l.map dII).length = l.length := by simp
theorem nth_zip {us : List Value} {l : List (List Int)} {k : Nat} (h : k < l.length) (hl : us.length = l.length) : nth (us.zip l) k = (nth us k, nth l k) := by
  rw [nth_get (by simp; omega), nth_get (by omega), nth_get h, List.getElem_zip]
theorem zip_fst {us : List Value} {l : List (List Int)} (hl : us.length = l.length) : (us.zip l).map Prod.fst = us := List.map_fst_zip (by omega)
theorem zip_snd {us : List Value} {l : List (List Int)} (hl : us.length = l.length) : (us.zip l).map Prod.snd = l := List.map_snd_zip (by omega)
theorem zip_filter {us : List Value} {l : List (List Int)} {q : List Int → Bool} (hl : us.length = l.length) : ((us.zip l).filter fun y => q y.2).map Prod.snd = l.filter q := by
  conv => rhs; rw [← zip_snd hl]
  rw [List.filter_map]; rfl

theorem IndexFunc2_Int_f (l : List Int) (p : Int → Bool) (fid : FuncId) (cs cs' : List D) (hp : ∀ x ∈ l, Fn Try.prog fid [.lit (.int .i64 x), .sptr cs, .sptr cs'] (.lit (.bool (p x))) []) : Fn Try.prog 202 [.sh 1 (ints l), .fn fid [.sptr cs, .sptr cs']] (.lit (.int .i64 (findIx p l))) [] := by
  refine Fn_of Try.func202 rfl (by kernel_rfl) rfl rfl ?_
  intro w0 A hin
  have hl := given_len hin (i := 0) rfl
  rw [len_ints] at hl
  have hF := fun k (hk : k < l.length) => hp _ (nth_mem hk)
  clear hp
  repeat' (first | refine goZ ?_ | ((first | refine R_cond rfl (fun hq => ?_) fun hq => ?_ | refine R_guardT rfl rfl rfl (fun hq => ?_) fun hq => ?_ | refine R_guardF rfl rfl rfl (fun hq => ?_) fun hq => ?_ | refine D_guardT rfl rfl rfl (fun hq => ?_) fun hq => ?_ | refine D_guardF rfl rfl rfl (fun hq => ?_) fun hq => ?_) <;> (try rw [hq]) <;> first | have hp := of_decide_eq_true hq | have hp := of_decide_eq_false hq | have hp := of_decide_eq_false (not_t hq) | have hp := of_decide_eq_true (not_f hq) | have hp := hq))
  refine W_loop (fun k : Nat => ⟨_, [(0, .sh 1 (ints l)), (1, .fn fid [.sptr cs, .sptr cs']), (7, .lit (.int .i64 l.length)), (8, .lit (.int .i64 k))], []⟩) (fun k => k ≤ l.length ∧ ∀ j, j < k → p (nth l j) = false) (fun k => l.length - k) 0 ⟨Nat.zero_le _, by omega⟩ (weakZ []) ?_
  rintro k ⟨hk, hj⟩
  repeat' (first | refine goZ ?_ | refine R_callZ rfl (hF _ (by omega)) rfl rfl rfl ?_ | refine R_callvZ rfl (hF _ (by omega)) rfl rfl rfl rfl ?_ | refine D_callZ rfl (hF _ (by omega)) rfl rfl rfl ?_ | ((first | refine R_cond rfl (fun hq => ?_) fun hq => ?_ | refine R_guardT rfl rfl rfl (fun hq => ?_) fun hq => ?_ | refine R_guardF rfl rfl rfl (fun hq => ?_) fun hq => ?_ | refine D_guardT rfl rfl rfl (fun hq => ?_) fun hq => ?_ | refine D_guardF rfl rfl rfl (fun hq => ?_) fun hq => ?_) <;> (try rw [hq]) <;> first | have hp := of_decide_eq_true hq | have hp := of_decide_eq_false hq | have hp := of_decide_eq_false (not_t hq) | have hp := of_decide_eq_true (not_f hq) | have hp := hq))
  · exact ret_int' rfl (findIx_at p (by omega) hj hq).symm
  · exact ⟨k + 1, ⟨by omega, fun j hj' => by by_cases e : j = k; (rw [e]; exact hq); exact hj j (by omega)⟩, by omega, weakZ []⟩
  · exact ret_int' rfl (findIx_not p (allN fun j h => hj j (by omega))).symm

theorem ContainsFunc2_Int_f (l : List Int) (p : Int → Bool) (fid : FuncId) (cs cs' : List D) (hp : ∀ x ∈ l, Fn Try.prog fid [.lit (.int .i64 x), .sptr cs, .sptr cs'] (.lit (.bool (p x))) []) : Fn Try.prog 149 [.sh 1 (ints l), .fn fid [.sptr cs, .sptr cs']] (.lit (.bool (l.any p))) [] := by
  refine Fn_of Try.func149 rfl (by kernel_rfl) rfl rfl ?_
  intro w0 A hin
  repeat' (first | refine goZ ?_ | refine R_callZ rfl (IndexFunc2_Int_f _ _ _ _ _ hp) rfl rfl rfl ?_ | refine R_callvZ rfl (IndexFunc2_Int_f _ _ _ _ _ hp) rfl rfl rfl rfl ?_ | refine D_callZ rfl (IndexFunc2_Int_f _ _ _ _ _ hp) rfl rfl rfl ?_ | ((first | refine R_cond rfl (fun hq => ?_) fun hq => ?_ | refine R_guardT rfl rfl rfl (fun hq => ?_) fun hq => ?_ | refine R_guardF rfl rfl rfl (fun hq => ?_) fun hq => ?_ | refine D_guardT rfl rfl rfl (fun hq => ?_) fun hq => ?_ | refine D_guardF rfl rfl rfl (fun hq => ?_) fun hq => ?_) <;> (try rw [hq]) <;> first | have hp := of_decide_eq_true hq | have hp := of_decide_eq_false hq | have hp := of_decide_eq_false (not_t hq) | have hp := of_decide_eq_true (not_f hq) | have hp := hq))
  exact ret_bool' rfl (findIx_any p l)

theorem IndexFunc2_II_f (l : List (List Int)) (p : List Int → Bool) (fid : FuncId) (cs cs' : List D) (hp : ∀ x ∈ l, Fn Try.prog fid [.sh 1 (ints x), .sptr cs, .sptr cs'] (.lit (.bool (p x))) []) : Fn Try.prog 211 [.sh 1 (l.map dII), .fn fid [.sptr cs, .sptr cs']] (.lit (.int .i64 (findIx p l))) [] := by
  refine Fn_of Try.func211 rfl (by kernel_rfl) rfl rfl ?_
  intro w0 A hin
  have hl := given_len hin (i := 0) rfl
  rw [len_dII] at hl
  have hz := len_dII l
  have hF := fun k (hk : k < l.length) => hp _ (nth_mem hk)
  clear hp
  repeat' (first | refine goZ ?_ | ((first | refine R_cond rfl (fun hq => ?_) fun hq => ?_ | refine R_guardT rfl rfl rfl (fun hq => ?_) fun hq => ?_ | refine R_guardF rfl rfl rfl (fun hq => ?_) fun hq => ?_ | refine D_guardT rfl rfl rfl (fun hq => ?_) fun hq => ?_ | refine D_guardF rfl rfl rfl (fun hq => ?_) fun hq => ?_) <;> (try rw [hq]) <;> first | have hp := of_decide_eq_true hq | have hp := of_decide_eq_false hq | have hp := of_decide_eq_false (not_t hq) | have hp := of_decide_eq_true (not_f hq) | have hp := hq))
  refine W_loop (fun k : Nat => ⟨_, [(0, .sh 1 (l.map dII)), (1, .fn fid [.sptr cs, .sptr cs']), (7, .lit (.int .i64 l.length)), (8, .lit (.int .i64 k))], []⟩) (fun k => k ≤ l.length ∧ ∀ j, j < k → p (nth l j) = false) (fun k => l.length - k) 0 ⟨Nat.zero_le _, by omega⟩ (weakZ []) ?_
  rintro k ⟨hk, hj⟩
  repeat' (first | refine goZ ?_ | refine R_callZ rfl (hF _ (by omega)) rfl rfl rfl ?_ | refine R_callvZ rfl (hF _ (by omega)) rfl rfl rfl rfl ?_ | refine D_callZ rfl (hF _ (by omega)) rfl rfl rfl ?_ | ((first | refine R_cond rfl (fun hq => ?_) fun hq => ?_ | refine R_guardT rfl rfl rfl (fun hq => ?_) fun hq => ?_ | refine R_guardF rfl rfl rfl (fun hq => ?_) fun hq => ?_ | refine D_guardT rfl rfl rfl (fun hq => ?_) fun hq => ?_ | refine D_guardF rfl rfl rfl (fun hq => ?_) fun hq => ?_) <;> (try rw [hq]) <;> first | have hp := of_decide_eq_true hq | have hp := of_decide_eq_false hq | have hp := of_decide_eq_false (not_t hq) | have hp := of_decide_eq_true (not_f hq) | have hp := hq))
  · exact ret_int' rfl (findIx_at p (by omega) hj hq).symm
  · exact ⟨k + 1, ⟨by omega, fun j hj' => by by_cases e : j = k; (rw [e]; exact hq); exact hj j (by omega)⟩, by omega, weakZ []⟩
  · exact ret_int' rfl (findIx_not p (allN fun j h => hj j (by omega))).symm

set_option maxHeartbeats 4000000 in
theorem DeleteFunc_II_m (l : List (List Int)) (p : List Int → Bool) (fid : FuncId) (cs cs' : List D) (hz : l.length ≤ 4294967296) (hC : ∀ x ∈ l, Fn Try.prog fid [.sh 1 (ints x), .sptr cs, .sptr cs'] (.lit (.bool (p x))) []) : FnM Try.prog 175 (.arr 51 1 (l.map dII) true) [.own 0, .fn fid [.sptr cs, .sptr cs']] (.own 0) [.arr 51 1 ((l.filter fun x => !p x).map dII) true] := by
  refine FnM_of Try.func175 rfl (by kernel_rfl) rfl rfl rfl rfl rfl ?_
  intro w0 A R
  refine W_weakR ?_
  have hl0 := len_dII l
  have hlo := findIx_ge p l
  have hhi := findIx_lt p l
  repeat' (first | refine goZ ?_ | refine R_callZ rfl (IndexFunc2_II_f _ _ _ _ _ hC) rfl rfl rfl ?_ | refine R_callvZ rfl (IndexFunc2_II_f _ _ _ _ _ hC) rfl rfl rfl rfl ?_ | refine D_callZ rfl (IndexFunc2_II_f _ _ _ _ _ hC) rfl rfl rfl ?_ | ((first | refine R_cond rfl (fun hq => ?_) fun hq => ?_ | refine R_guardT rfl rfl rfl (fun hq => ?_) fun hq => ?_ | refine R_guardF rfl rfl rfl (fun hq => ?_) fun hq => ?_ | refine D_guardT rfl rfl rfl (fun hq => ?_) fun hq => ?_ | refine D_guardF rfl rfl rfl (fun hq => ?_) fun hq => ?_) <;> (try rw [hq]) <;> first | have hp := of_decide_eq_true hq | have hp := of_decide_eq_false hq | have hp := of_decide_eq_false (not_t hq) | have hp := of_decide_eq_true (not_f hq) | have hp := hq))
  · exact ⟨_, fun ms a w h => ⟨ms, h⟩, .r (ret_own rfl rfl (by rw [filter_none hp])) rfl⟩
  · obtain ⟨k, hk1, hk2, hk3, hk4⟩ := findIx_spec hp
    rw [hk2]
    refine W_shallow 0 51 l rfl ?_
    intro us hus hsl
    have hzl : (us.zip l).length = l.length := by rw [List.length_zip]; omega
    have hst : DelInv (fun y : Value × List Int => p y.2) (us.zip l) (us.zip l) k (k + 1) := DelInv.start (by rw [hzl]; exact hk1) (by rw [nth_zip hk1 hus]; exact hk3) (fun j hj => by rw [nth_zip (Nat.lt_trans hj hk1) hus]; exact hk4 j hj)
    refine W_loop (fun x : List (Value × List Int) × Nat × Nat => ⟨_, [(0, .own 0), (1, .fn fid [.sptr cs, .sptr cs']), (5, .lit (.int .i64 x.2.1)), (6, .lit (.int .i64 x.2.2))], [.arr 51 1 ((x.1.map Prod.fst).map dVal) true, .cust R, .cust (RowsR us l)]⟩) (fun x => DelInv (fun y => p y.2) (us.zip l) x.1 x.2.1 x.2.2) (fun x => l.length - x.2.2) (us.zip l, k, k + 1) hst (by dsimp only; rw [zip_fst hus]; exact weakZ []) ?_
    rintro ⟨cur, i, r⟩ hI
    dsimp only at hI ⊢
    have hi1 := hI.lt
    have hi2 := hI.le
    have hi3 := hI.len
    have hi4 : ((cur.map Prod.fst).map dVal).length = cur.length := by simp
    have hi5 : (cur.map Prod.fst).length = cur.length := by simp
    have hcr : r < l.length → nth cur r = (nth us r, nth l r) := fun h => by rw [hI.same, nth_zip h hus]
    have hcf : r < l.length → nth (cur.map Prod.fst) r = nth us r := fun h => by
      have e := hcr h
      rw [nth_get (by omega)] at e ⊢
      simp [e]
    repeat' (first | refine R_assignTag 7 2 r us l rfl (congrArg D.lit (congrArg id (hcf (by omega)))) (by omega) rfl ?_ | refine R_moveLit 32 rfl (hsl _ (nth_mem (by omega))) rfl ?_ | refine R_clearTailG tabOk rfl rfl rfl rfl rfl rfl rfl (row := [.lit (.slice none 0 0)]) (fun _ => .cons (VX.of_lit trivial) .nil) rfl rfl rfl (flat_vals _) (by omega) ?_ | refine R_cutOwn tabOk rfl rfl rfl rfl rfl rfl rfl rfl (flat_tail (flat_vals _) rfl) (by simp; omega) ?_ | refine go1 ?_ | refine R_callZ rfl (hC (nth l r) (nth_mem (by omega))) rfl rfl rfl ?_ | refine R_callvZ rfl (hC (nth l r) (nth_mem (by omega))) rfl rfl rfl rfl ?_ | refine D_callZ rfl (hC (nth l r) (nth_mem (by omega))) rfl rfl rfl ?_ | ((first | refine R_cond rfl (fun hq => ?_) fun hq => ?_ | refine R_guardT rfl rfl rfl (fun hq => ?_) fun hq => ?_ | refine R_guardF rfl rfl rfl (fun hq => ?_) fun hq => ?_ | refine D_guardT rfl rfl rfl (fun hq => ?_) fun hq => ?_ | refine D_guardF rfl rfl rfl (fun hq => ?_) fun hq => ?_) <;> (try rw [hq]) <;> first | have hp := of_decide_eq_true hq | have hp := of_decide_eq_false hq | have hp := of_decide_eq_false (not_t hq) | have hp := of_decide_eq_true (not_f hq) | have hp := hq))
    · have hrl : r < l.length := by omega
      refine ⟨(cur.set i (nth cur r), i + 1, r + 1), hI.yes (by omega) (by rw [hcr hrl]; exact not_t hp), by dsimp only; omega, ?_⟩
      have e : ((cur.set i (nth cur r)).map Prod.fst).map dVal = ((cur.map Prod.fst).set i (nth us r)).map dVal := by rw [hcr hrl, List.map_set]
      dsimp only
      rw [e]
      exact weakZ _
    · have hrl : r < l.length := by omega
      exact ⟨(cur, i, r + 1), hI.no (by omega) (by rw [hcr hrl]; exact not_f hp), by dsimp only; omega, weakZ _⟩
    · have e := (cut_tail (l := cur.map Prod.fst) (f := dVal) (j := i) (ys := List.replicate (((cur.map Prod.fst).map dVal).length - (i : Int).toNat) [D.lit (.slice none 0 0)]) (by omega)).trans (by rw [← List.map_take, hI.fin (by omega)])
      refine ⟨_, Weak_deep 0 2 51 us l ((us.zip l).filter fun y => !p y.2) (by omega) ?_ rfl List.filter_sublist rfl, .r (ret_own rfl rfl ?_) rfl⟩
      · exact congrArg (fun x => some (Blk.arr 51 1 x true)) e
      · rw [zip_filter (q := fun x => !p x) hus]

/-! ### Pairs that violate complete state coding -/
def cfP (c : SGraph) (p : List Int) (sig : Int) : Bool := c.arcs.any (excP (nth p 0) sig) != c.arcs.any (excP (nth p 1) sig)
def cfQ (c : SGraph) (p : List Int) : Bool := (outL c).any (cfP c p)
def cfL (c : SGraph) : List (List Int) := (ecL c).filter (cfQ c)
noncomputable def cfR (c : SGraph) : List (List Int) := if goodSG c then cfL c else []
theorem rowP_in {p : Nat → Bool} {i m : Nat} : ∀ r ∈ rowP p i m, (0 ≤ nth r 0 ∧ nth r 0 = i) ∧ 0 ≤ nth r 1 ∧ nth r 1 < m := by
  intro r hr
  simp only [rowP, List.mem_map, List.mem_filter, List.mem_range] at hr
  obtain ⟨k, ⟨h1, _⟩, rfl⟩ := hr
  show (0 ≤ (i : Int) ∧ (i : Int) = i) ∧ 0 ≤ (k : Int) ∧ (k : Int) < m
  omega
theorem pairsP_in {p : Nat → Nat → Bool} {n : Nat} : ∀ {i : Nat}, i ≤ n → ∀ r ∈ pairsP p n i, (0 ≤ nth r 0 ∧ nth r 0 < n) ∧ 0 ≤ nth r 1 ∧ nth r 1 < n
  | 0, _, r, hr => by simp [pairsP] at hr
  | i + 1, h, r, hr => by
    simp only [pairsP, List.mem_append] at hr
    rcases hr with hr | hr
    · exact pairsP_in (by omega) r hr
    · have := rowP_in r hr; omega
theorem ecL_in (c : SGraph) : ∀ p ∈ ecL c, p.length = 2 ∧ (0 ≤ nth p 0 ∧ nth p 0 < c.codes.length) ∧ 0 ≤ nth p 1 ∧ nth p 1 < c.codes.length :=
  fun p hp => ⟨pairsP_two p hp, pairsP_in (Nat.le_refl _) p hp⟩
theorem ecL_len {c : SGraph} (h : c.codes.length ≤ 300) : (ecL c).length ≤ 90000 := by
  have h1 := pairsP_len (codeP c) c.codes.length c.codes.length
  have h2 : c.codes.length * c.codes.length ≤ 300 * 300 := Nat.mul_le_mul h h
  unfold ecL; omega
theorem outL_in {c : SGraph} (hb : c.signals.length ≤ 8) : ∀ x ∈ outL c, 0 ≤ x ∧ x ≤ 7 := by
  intro x hx
  obtain ⟨i, h1, _, h2⟩ := pickN_mem.1 hx
  omega

theorem conflicts11_f (c : SGraph) (p : List Int) (sig : Int) (hS : sigsLe c.arcs) (hl : p.length = 2) (hp : (0 ≤ nth p 0 ∧ nth p 0 < c.codes.length) ∧ 0 ≤ nth p 1 ∧ nth p 1 < c.codes.length) (hs : 0 ≤ sig ∧ sig ≤ 7) : Fn Try.prog 178 [.lit (.int .i64 sig), .sptr [.sh 1 (ints (mskL c.arcs c.codes.length))], .sptr [.sh 1 (ints p)]] (.lit (.bool (cfP c p sig))) [] := by
  refine Fn_of Try.func178 rfl (by kernel_rfl) rfl rfl ?_
  intro w0 A hin
  have h1 := len_ints p
  have h2 := len_ints (mskL c.arcs c.codes.length)
  have h3 := mskL_len c.arcs c.codes.length
  have h4 : 0 ≤ nth p (0 : Int).toNat ∧ nth p (0 : Int).toNat < c.codes.length := hp.1
  have h5 : 0 ≤ nth p (1 : Int).toNat ∧ nth p (1 : Int).toNat < c.codes.length := hp.2
  repeat' (first | refine goZ ?_ | ((first | refine R_cond rfl (fun hq => ?_) fun hq => ?_ | refine R_guardT rfl rfl rfl (fun hq => ?_) fun hq => ?_ | refine R_guardF rfl rfl rfl (fun hq => ?_) fun hq => ?_ | refine D_guardT rfl rfl rfl (fun hq => ?_) fun hq => ?_ | refine D_guardF rfl rfl rfl (fun hq => ?_) fun hq => ?_) <;> (try rw [hq]) <;> first | have hp := of_decide_eq_true hq | have hp := of_decide_eq_false hq | have hp := of_decide_eq_false (not_t hq) | have hp := of_decide_eq_true (not_f hq) | have hp := hq))
  refine ret_bool' rfl ?_
  have e1 := mask_exc (l := c.arcs) (n := c.codes.length) (s := nth p 0) (sig := sig) hS hp.1 hs
  have e2 := mask_exc (l := c.arcs) (n := c.codes.length) (s := nth p 1) (sig := sig) hS hp.2 hs
  rw [show (0 : Int).toNat = 0 from rfl, show (1 : Int).toNat = 1 from rfl, e1, e2, cfP]
  cases c.arcs.any (excP (nth p 0) sig) <;> cases c.arcs.any (excP (nth p 1) sig) <;> rfl

theorem conflicts1_f (c : SGraph) (p : List Int) (hb : c.signals.length ≤ 8) (hS : sigsLe c.arcs) (hp : p ∈ ecL c) : Fn Try.prog 177 [.sh 1 (ints p), .sptr [.sh 1 (ints (outL c))], .sptr [.sh 1 (ints (mskL c.arcs c.codes.length))]] (.lit (.bool (!cfQ c p))) [] := by
  refine Fn_of Try.func177 rfl (by kernel_rfl) rfl rfl ?_
  intro w0 A hin
  have hi := ecL_in c p hp
  have hC := ContainsFunc2_Int_f (outL c) (cfP c p) 178 [.sh 1 (ints (mskL c.arcs c.codes.length))] [.sh 1 (ints p)] fun x hx => conflicts11_f c p x hS hi.1 hi.2 (outL_in hb x hx)
  repeat' (first | refine goZ ?_ | refine R_callZ rfl (hC) rfl rfl rfl ?_ | refine R_callvZ rfl (hC) rfl rfl rfl rfl ?_ | refine R_callxZ rfl (hC) rfl rfl rfl rfl (by repeat' (first | exact trivial | rfl | refine And.intro ?_ ?_)) ?_ | refine D_callZ rfl (hC) rfl rfl rfl ?_ | ((first | refine R_cond rfl (fun hq => ?_) fun hq => ?_ | refine R_guardT rfl rfl rfl (fun hq => ?_) fun hq => ?_ | refine R_guardF rfl rfl rfl (fun hq => ?_) fun hq => ?_ | refine D_guardT rfl rfl rfl (fun hq => ?_) fun hq => ?_ | refine D_guardF rfl rfl rfl (fun hq => ?_) fun hq => ?_) <;> (try rw [hq]) <;> first | have hp := of_decide_eq_true hq | have hp := of_decide_eq_false hq | have hp := of_decide_eq_false (not_t hq) | have hp := of_decide_eq_true (not_f hq) | have hp := hq))
  exact ret_bool' rfl rfl
end Go.Proofs.Ytodjjabmaleggaa
