/- Numbers put in their places: spec.l1Put and what is built with it. No condition. Bits of labels: what impl.labelMasks hands back, and what its bits say. No condition. Disabling arcs: what the reference's and the program's functions hand back. No condition. -/
import Derived.Test.YtcmedjlpaondjaaMv
import Derived.Test.YtcmedjlpaondjaaAbsY
import Derived.Test.YtcmedjlpaondjaaSgc
import Derived.Test.YtcmedjlpaondjaaPick
set_option linter.unusedSimpArgs false
set_option linter.unusedVariables false
set_option maxHeartbeats 2000000
namespace Go.Proofs.Ytcmedjlpaondjaa
open Go.ChangeShapes Go.WideShapes Go.ChangeAt Go.RowKit

/-- A number put to its place in an increasing list, once. -/
def putI : List Int → Int → List Int
  | [], n => [n]
  | x :: l, n => if x < n then x :: putI l n else if x = n then x :: l else n :: x :: l
theorem putI_len : ∀ (l : List Int) (n : Int), (putI l n).length ≤ l.length + 1
  | [], _ => by simp [putI]
  | x :: l, n => by
    have := putI_len l n
    simp only [putI]; split
    · simp; omega
    · split <;> simp
theorem putI_same : ∀ {l : List Int} {n : Int} {k : Nat}, k < l.length → (∀ j, j < k → nth l j < n) → nth l k = n → putI l n = l
  | [], _, _, h, _, _ => by simp at h
  | x :: l, n, 0, _, _, h => by rw [nth_cons_zero] at h; simp [putI, h]
  | x :: l, n, k + 1, hk, h1, h => by
    have h0 := h1 0 (by omega)
    rw [nth_cons_zero] at h0
    rw [nth_cons_succ] at h
    simp only [putI, if_pos h0]
    rw [putI_same (by simpa using hk) (fun j hj => by have := h1 (j + 1) (by omega); rwa [nth_cons_succ] at this) h]
theorem putI_new : ∀ {l : List Int} {n : Int} {k : Nat}, k ≤ l.length → (∀ j, j < k → nth l j < n) → (k < l.length → n < nth l k) → putI l n = l.take k ++ ([n] ++ l.drop k)
  | [], n, k, hk, _, _ => by simp at hk; subst hk; rfl
  | x :: l, n, 0, _, _, h => by
    have := h (by simp)
    rw [nth_cons_zero] at this
    simp only [putI]; rw [if_neg (by omega), if_neg (by omega)]; rfl
  | x :: l, n, k + 1, hk, h1, h => by
    have h0 := h1 0 (by omega)
    rw [nth_cons_zero] at h0
    simp only [putI, if_pos h0]
    rw [putI_new (k := k) (by simpa using hk) (fun j hj => by have := h1 (j + 1) (by omega); rwa [nth_cons_succ] at this) (fun hk2 => by have := h (by simpa using hk2); rwa [nth_cons_succ] at this)]
    rfl
/-- Increasing lists. -/
def Inc (l : List Int) : Prop := l.Pairwise (· < ·)
theorem putI_mem : ∀ {l : List Int} {n x : Int}, x ∈ putI l n ↔ x = n ∨ x ∈ l
  | [], n, x => by simp [putI]
  | y :: l, n, x => by
    simp only [putI]; split
    · rw [List.mem_cons, putI_mem, List.mem_cons]; constructor
      · rintro (h | h | h) <;> simp [h]
      · rintro (h | h | h) <;> simp [h]
    · split
      · rename_i h; subst h; simp
      · simp
theorem putI_inc : ∀ {l : List Int} {n : Int}, Inc l → Inc (putI l n)
  | [], n, _ => by simp [putI, Inc]
  | y :: l, n, h => by
    simp only [Inc, List.pairwise_cons] at h
    simp only [putI]; split
    · rename_i hy
      simp only [Inc, List.pairwise_cons]
      refine ⟨fun x hx => ?_, putI_inc h.2⟩
      rcases putI_mem.1 hx with rfl | hx
      · exact hy
      · exact h.1 x hx
    · split
      · simp only [Inc, List.pairwise_cons]; exact h
      · simp only [Inc, List.pairwise_cons]
        refine ⟨fun x hx => ?_, h⟩
        rcases List.mem_cons.1 hx with rfl | hx
        · omega
        · have := h.1 x hx; omega
/-- Increasing lists with the same elements are the same. -/
theorem inc_ext : ∀ {l l' : List Int}, Inc l → Inc l' → (∀ x, x ∈ l ↔ x ∈ l') → l = l'
  | [], [], _, _, _ => rfl
  | [], y :: l', _, _, h => by have := (h y).2 (by simp); simp at this
  | x :: l, [], _, _, h => by have := (h x).1 (by simp); simp at this
  | x :: l, y :: l', h1, h2, h => by
    simp only [Inc, List.pairwise_cons] at h1 h2
    have hxy : x = y := by
      rcases List.mem_cons.1 ((h x).1 (by simp)) with e | hx
      · exact e
      · rcases List.mem_cons.1 ((h y).2 (by simp)) with e | hy
        · exact e.symm
        · have := h1.1 y hy; have := h2.1 x hx; omega
    subst hxy
    rw [inc_ext h1.2 h2.2 fun z => ?_]
    have hz := h z
    simp only [List.mem_cons] at hz
    constructor
    · intro hm
      rcases hz.1 (Or.inr hm) with rfl | hm'
      · have := h1.1 _ hm; omega
      · exact hm'
    · intro hm
      rcases hz.2 (Or.inr hm) with rfl | hm'
      · have := h2.1 _ hm; omega
      · exact hm'

theorem putI_rows (l : List Int) (n : Int) (k : Nat) : List.drop 0 (List.take (k : Int).toNat (ints l)) ++ [[D.lit (Value.int IntKind.i64 n)]] ++ List.drop (k : Int).toNat (List.take (ints l).length (ints l)) = ints (l.take k ++ ([n] ++ l.drop k)) := by
  rw [List.take_length]
  simp [ints, List.map_take, List.map_drop]

theorem l1Put_m (l : List Int) (n : Int) (hz : l.length ≤ 4000000) : FnM Try.prog 105 (.arr 3 1 (ints l) true) [.own 0, .lit (.int .i64 n)] (.own 0) [.arr 3 1 (ints (putI l n)) true] := by
  refine FnM_of Try.func105 rfl (by kernel_rfl) rfl rfl rfl rfl rfl ?_
  intro w0 A R
  have hl := len_ints l
  repeat' (first | refine goZ ?_ | ((first | refine R_cond rfl (fun hq => ?_) fun hq => ?_ | refine R_guardT rfl rfl rfl (fun hq => ?_) fun hq => ?_ | refine R_guardF rfl rfl rfl (fun hq => ?_) fun hq => ?_ | refine D_guardT rfl rfl rfl (fun hq => ?_) fun hq => ?_ | refine D_guardF rfl rfl rfl (fun hq => ?_) fun hq => ?_) <;> (try rw [hq]) <;> first | have hp := of_decide_eq_true hq | have hp := of_decide_eq_false hq | have hp := of_decide_eq_false (not_t hq) | have hp := of_decide_eq_true (not_f hq) | have hp := hq))
  refine W_loop (fun k : Nat => ⟨_, [(0, .own 0), (1, .lit (.int .i64 n)), (5, .lit (.int .i64 k))], [.arr 3 1 (ints l) true, .cust R]⟩) (fun k => k ≤ l.length ∧ ∀ j, j < k → nth l j < n) (fun k => l.length - k) 0 ⟨Nat.zero_le _, fun j hj => by omega⟩ (weakZ []) ?_
  rintro k ⟨hk, hj⟩
  repeat' (first | refine goZ ?_ | ((first | refine R_cond rfl (fun hq => ?_) fun hq => ?_ | refine R_guardT rfl rfl rfl (fun hq => ?_) fun hq => ?_ | refine R_guardF rfl rfl rfl (fun hq => ?_) fun hq => ?_ | refine D_guardT rfl rfl rfl (fun hq => ?_) fun hq => ?_ | refine D_guardF rfl rfl rfl (fun hq => ?_) fun hq => ?_) <;> (try rw [hq]) <;> first | have hp := of_decide_eq_true hq | have hp := of_decide_eq_false hq | have hp := of_decide_eq_false (not_t hq) | have hp := of_decide_eq_true (not_f hq) | have hp := hq))
  · exact ⟨k + 1, ⟨by omega, fun j hj' => by by_cases e : j = k; (rw [e]; exact hp); exact hj j (by omega)⟩, by omega, weakZ _⟩
  · have h1 : k < l.length := by omega
    have h2 : nth l k = n := by simpa [h1, hl] using hp
    exact .r (ret_own rfl rfl (by rw [putI_same h1 hj h2])) rfl
  · have h1 : k < l.length := by omega
    have h2 : ¬ nth l k = n := by simpa [h1, hl] using hp
    exact .r (ret_own rfl rfl ((putI_rows l n k).trans (by rw [putI_new hk hj fun _ => by omega]))) rfl
  · exact .r (ret_own rfl rfl ((putI_rows l n k).trans (by rw [putI_new hk hj fun h => by omega]))) rfl
theorem l10Is_f (a : ArcD) (sig : Int) (up : Bool) : Fn Try.prog 118 [.agg (dArcD a), .lit (.int .i64 sig), .lit (.bool up)] (.lit (.bool (decide (a.sig = sig) && (a.up == up)))) [] := by
  refine Fn_of Try.func118 rfl (by kernel_rfl) rfl rfl ?_
  intro w0 A hin
  repeat' (first | refine goZ ?_ | ((first | refine R_cond rfl (fun hq => ?_) fun hq => ?_ | refine R_guardT rfl rfl rfl (fun hq => ?_) fun hq => ?_ | refine R_guardF rfl rfl rfl (fun hq => ?_) fun hq => ?_ | refine D_guardT rfl rfl rfl (fun hq => ?_) fun hq => ?_ | refine D_guardF rfl rfl rfl (fun hq => ?_) fun hq => ?_) <;> (try rw [hq]) <;> first | have hp := of_decide_eq_true hq | have hp := of_decide_eq_false hq | have hp := of_decide_eq_false (not_t hq) | have hp := of_decide_eq_true (not_f hq) | have hp := hq))
  all_goals exact ret_bool' rfl rfl

/-- The states that arcs with a label leave, in order, each once. -/
def isA (sig : Int) (up : Bool) (a : ArcD) : Bool := decide (a.sig = sig) && (a.up == up)
def exL (l : List ArcD) (sig : Int) (up : Bool) : List Int := (l.filter (isA sig up)).foldl (fun r a => putI r a.src) []
theorem exL_yes {l : List ArcD} {sig : Int} {up : Bool} {k : Nat} (hk : k < l.length) (h : isA sig up (nth l k) = true) : exL (l.take (k + 1)) sig up = putI (exL (l.take k) sig up) (nth l k).src := by
  unfold exL; rw [fil_yes hk h, List.foldl_append]; rfl
theorem exL_no {l : List ArcD} {sig : Int} {up : Bool} {k : Nat} (hk : k < l.length) (h : isA sig up (nth l k) = false) : exL (l.take (k + 1)) sig up = exL (l.take k) sig up := by
  unfold exL; rw [fil_no hk h]
theorem put_fold {α : Type} (f : α → Int) : ∀ (l : List α) (r : List Int), Inc r → Inc (l.foldl (fun r a => putI r (f a)) r) ∧ (∀ x, x ∈ l.foldl (fun r a => putI r (f a)) r ↔ x ∈ r ∨ ∃ a ∈ l, f a = x) ∧ (l.foldl (fun r a => putI r (f a)) r).length ≤ r.length + l.length
  | [], r, h => ⟨h, fun x => by simp, by simp⟩
  | a :: l, r, h => by
    obtain ⟨h1, h2, h3⟩ := put_fold f l (putI r (f a)) (putI_inc h)
    have := putI_len r (f a)
    refine ⟨h1, fun x => ?_, by simp only [List.foldl_cons, List.length_cons]; omega⟩
    rw [List.foldl_cons, h2, putI_mem]
    constructor
    · rintro ((rfl | h) | ⟨b, hb, rfl⟩)
      · exact Or.inr ⟨a, by simp, rfl⟩
      · exact Or.inl h
      · exact Or.inr ⟨b, by simp [hb], rfl⟩
    · rintro (h | ⟨b, hb, rfl⟩)
      · exact Or.inl (Or.inr h)
      · rcases List.mem_cons.1 hb with rfl | hb
        · exact Or.inl (Or.inl rfl)
        · exact Or.inr ⟨b, hb, rfl⟩
theorem exL_len (l : List ArcD) (sig : Int) (up : Bool) : (exL l sig up).length ≤ l.length := by
  have := (put_fold (fun a : ArcD => a.src) (l.filter (isA sig up)) [] (by simp [Inc])).2.2
  have := List.length_filter_le (isA sig up) l
  unfold exL; simp at *; omega
theorem exL_mem {l : List ArcD} {sig : Int} {up : Bool} {x : Int} : x ∈ exL l sig up ↔ ∃ a ∈ l, isA sig up a = true ∧ a.src = x := by
  unfold exL
  rw [(put_fold (fun a : ArcD => a.src) (l.filter (isA sig up)) [] (by simp [Inc])).2.1]
  simp [and_assoc]
theorem exL_inc (l : List ArcD) (sig : Int) (up : Bool) : Inc (exL l sig up) := (put_fold (fun a : ArcD => a.src) (l.filter (isA sig up)) [] (by simp [Inc])).1

theorem l10Excited_f (c : SGraph) (sig : Int) (up : Bool) (hb : c.arcs.length ≤ 4000) : Fn Try.prog 74 [.agg (dSGraph c), .lit (.int .i64 sig), .lit (.bool up)] (.own 0) [.arr 3 1 (ints (exL c.arcs sig up)) true] := by
  refine Fn_of Try.func74 rfl (by kernel_rfl) rfl rfl ?_
  intro w0 A hin
  have hza := len_dArcD c.arcs
  repeat' (first | refine goZ ?_ | ((first | refine R_cond rfl (fun hq => ?_) fun hq => ?_ | refine R_guardT rfl rfl rfl (fun hq => ?_) fun hq => ?_ | refine R_guardF rfl rfl rfl (fun hq => ?_) fun hq => ?_ | refine D_guardT rfl rfl rfl (fun hq => ?_) fun hq => ?_ | refine D_guardF rfl rfl rfl (fun hq => ?_) fun hq => ?_) <;> (try rw [hq]) <;> first | have hp := of_decide_eq_true hq | have hp := of_decide_eq_false hq | have hp := of_decide_eq_false (not_t hq) | have hp := of_decide_eq_true (not_f hq) | have hp := hq))
  refine W_open 7 3 1 rfl ?_
  refine W_loop (fun k : Nat => ⟨_, [(1, .lit (.int .i64 sig)), (2, .lit (.bool up)), (3, .ptr 0 0), (7, .own 1), (11, .sh 4 (c.arcs.map dArcD)), (12, .lit (.int .i64 c.arcs.length)), (13, .lit (.int .i64 k))], [.cells 35 (dSGraph c), .arr 3 1 (ints (exL (c.arcs.take k) sig up)) true]⟩) (fun k => k ≤ c.arcs.length) (fun k => c.arcs.length - k) 0 (Nat.zero_le _) (weakZ []) ?_
  intro k hk
  have hlen : (exL (c.arcs.take k) sig up).length ≤ 4000 := Nat.le_trans (exL_len _ _ _) (by simp; omega)
  repeat' (first | refine goZ ?_ | refine R_callZ rfl (l10Is_f _ _ _) rfl rfl rfl ?_ | refine R_callvZ rfl (l10Is_f _ _ _) rfl rfl rfl rfl ?_ | refine R_callM rfl (l1Put_m (exL (c.arcs.take k) sig up) (nth c.arcs k).src (by omega)) rfl rfl rfl rfl rfl rfl rfl rfl (by first | exact hfl _ | exact flat_ints _) ?_ | refine D_callZ rfl (l10Is_f _ _ _) rfl rfl rfl ?_ | ((first | refine R_cond rfl (fun hq => ?_) fun hq => ?_ | refine R_guardT rfl rfl rfl (fun hq => ?_) fun hq => ?_ | refine R_guardF rfl rfl rfl (fun hq => ?_) fun hq => ?_ | refine D_guardT rfl rfl rfl (fun hq => ?_) fun hq => ?_ | refine D_guardF rfl rfl rfl (fun hq => ?_) fun hq => ?_) <;> (try rw [hq]) <;> first | have hp := of_decide_eq_true hq | have hp := of_decide_eq_false hq | have hp := of_decide_eq_false (not_t hq) | have hp := of_decide_eq_true (not_f hq) | have hp := hq))
  · refine ⟨k + 1, by omega, by omega, ?_⟩
    simp only [exL_yes (show k < c.arcs.length by omega) hq]
    refine Weak_ren [some 0, some 3] rfl rfl ?_ ?_ <;> (repeat' (first | exact trivial | rfl | refine And.intro ?_ ?_ | (simp [St.get, look, ints, strs, bools]; done))) <;> done
  · refine ⟨k + 1, by omega, by omega, ?_⟩
    simp only [exL_no (show k < c.arcs.length by omega) hq]
    exact weakZ _
  · exact ret_own rfl rfl (by rw [List.take_of_length_le (by omega)])

end Go.Proofs.Ytcmedjlpaondjaa
namespace Go.Proofs.Ytcmedjlpaondjaa
open Go.ChangeShapes Go.WideShapes Go.ChangeAt Go.RowKit

/-! ### Bits of small numbers -/
theorem wrap_small {n : Nat} (h : n < 9223372036854775808) : IntKind.i64.wrap (n : Int) = (n : Int) := wrap_i64 ⟨by omega, by omega⟩
theorem ofInt_nat (n : Nat) : BitVec.ofInt 64 (n : Int) = BitVec.ofNat 64 n := by simp
theorem lt63 {n : Nat} (h : n < 65536) : n % 2 ^ 64 = n := Nat.mod_eq_of_lt (by omega)
theorem orI_nat {x y : Nat} (hx : x < 65536) (hy : y < 65536) : orI (x : Int) (y : Int) = ((x ||| y : Nat) : Int) := by
  have h : x ||| y < 2 ^ 16 := Nat.or_lt_two_pow (by omega) (by omega)
  unfold orI
  rw [ofInt_nat, ofInt_nat, BitVec.toNat_or, BitVec.toNat_ofNat, BitVec.toNat_ofNat, lt63 hx, lt63 hy, wrap_small (by omega)]
theorem andI_three (x : Nat) (hx : x < 65536) : andI (x : Int) 3 = ((x % 4 : Nat) : Int) := by
  unfold andI
  rw [show (3 : Int) = ((3 : Nat) : Int) from rfl, ofInt_nat, ofInt_nat, BitVec.toNat_and, BitVec.toNat_ofNat, BitVec.toNat_ofNat, lt63 hx, lt63 (by omega)]
  have : x &&& 3 = x % 4 := Nat.and_two_pow_sub_one_eq_mod x 2
  rw [this, wrap_small (by omega)]
/-- x without the bits of y. -/
def lessBits (x y : Nat) : Nat := (BitVec.ofNat 64 x &&& ~~~ BitVec.ofNat 64 y).toNat
theorem lessBits_bit {x y i : Nat} (hx : x < 65536) (hi : i < 64) : (lessBits x y).testBit i = (x.testBit i && !y.testBit i) := by
  unfold lessBits
  rw [BitVec.testBit_toNat, BitVec.getLsbD_and, BitVec.getLsbD_not, BitVec.getLsbD_ofNat, BitVec.getLsbD_ofNat]
  simp [hi]
theorem lessBits_le (x y : Nat) (hx : x < 65536) : lessBits x y < 65536 := by
  unfold lessBits
  rw [BitVec.toNat_and, BitVec.toNat_ofNat, lt63 hx]
  exact Nat.lt_of_le_of_lt Nat.and_le_left hx
theorem andNotI_nat {x y : Nat} (hx : x < 65536) : andNotI (x : Int) (y : Int) = ((lessBits x y : Nat) : Int) := by
  have h := lessBits_le x y hx
  unfold andNotI
  rw [ofInt_nat, ofInt_nat]
  exact wrap_small (by unfold lessBits at h; omega)
theorem mod4_bits (x : Nat) : x % 4 = 0 ↔ x.testBit 0 = false ∧ x.testBit 1 = false := by
  rw [Nat.testBit_zero, Nat.testBit_succ, Nat.testBit_zero, decide_eq_false_iff_not, decide_eq_false_iff_not]
  omega
theorem shift_bits (x s i : Nat) : (x / 2 ^ s).testBit i = x.testBit (s + i) := by
  rw [← Nat.shiftRight_eq_div_pow, Nat.testBit_shiftRight]

/-! ### The masks -/
def lbit (sig : Nat) (up : Bool) : Nat := 2 * sig + (if up then 1 else 0)
def hasA (l : List ArcD) (k : Int) (sig : Int) (up : Bool) : Bool := l.any fun a => decide (a.src = k) && isA sig up a
/-- What labelMasks' cell of a state holds behind so many arcs. -/
def mskN : List ArcD → Int → Nat
  | [], _ => 0
  | a :: l, k => if a.src = k ∧ 0 ≤ a.sig then 2 ^ lbit a.sig.toNat a.up ||| mskN l k else mskN l k
theorem mskN_append : ∀ (l : List ArcD) (a : ArcD) (k : Int), mskN (l ++ [a]) k = if a.src = k ∧ 0 ≤ a.sig then mskN l k ||| 2 ^ lbit a.sig.toNat a.up else mskN l k
  | [], a, k => by simp only [List.nil_append, mskN]; split <;> simp
  | b :: l, a, k => by
    simp only [List.cons_append, mskN, mskN_append l a k]
    split <;> split <;> simp [Nat.or_assoc]
def sigsLe (l : List ArcD) : Prop := ∀ a ∈ l, a.sig ≤ 7
theorem mskN_lt : ∀ {l : List ArcD} (k : Int), sigsLe l → mskN l k < 65536
  | [], _, _ => by simp [mskN]
  | a :: l, k, h => by
    have ih := mskN_lt (l := l) k fun b hb => h b (List.mem_cons_of_mem _ hb)
    have ha := h a (by simp)
    simp only [mskN]; split
    · rename_i hc
      have hb : lbit a.sig.toNat a.up < 16 := by unfold lbit; split <;> omega
      exact Nat.or_lt_two_pow (n := 16) (Nat.pow_lt_pow_right (by omega) hb) ih
    · exact ih
theorem lbit_inj {s s' : Nat} {u u' : Bool} (h : lbit s u = lbit s' u') : s = s' ∧ u = u' := by
  unfold lbit at h
  cases u <;> cases u' <;> simp at h ⊢ <;> omega
theorem mskN_bit : ∀ (l : List ArcD) (k : Int) (sig : Nat) (up : Bool), (mskN l k).testBit (lbit sig up) = hasA l k sig up
  | [], _, _, _ => by simp [mskN, hasA]
  | a :: l, k, sig, up => by
    have ih := mskN_bit l k sig up
    simp only [hasA, List.any_cons] at ih ⊢
    simp only [mskN]
    split
    · rename_i hc
      rw [Nat.testBit_or, ih, Nat.testBit_two_pow]
      congr 1
      simp only [isA]
      by_cases h : lbit a.sig.toNat a.up = lbit sig up
      · obtain ⟨h1, h2⟩ := lbit_inj h
        have : a.sig = (sig : Int) := by omega
        simp [hc.1, this, h2]
      · have : ¬ (a.sig = (sig : Int) ∧ a.up = up) := by
          rintro ⟨h1, h2⟩; apply h; rw [h1, h2]; rfl
        rw [decide_eq_false h]
        cases hs : decide (a.sig = (sig : Int))
        · simp
        · have hu : a.up ≠ up := fun e => this ⟨of_decide_eq_true hs, e⟩
          simp [hu]
    · rename_i hc
      rw [ih]
      have : (decide (a.src = k) && isA (sig : Int) up a) = false := by
        simp only [isA]
        by_cases h : a.src = k
        · have : ¬ 0 ≤ a.sig := fun h2 => hc ⟨h, h2⟩
          have : ¬ a.sig = (sig : Int) := by omega
          simp [this]
        · simp [h]
      rw [this, Bool.false_or]

/-- The test of a signal's bits: the arcs of a state have a label of it. -/
theorem bits_of {x : Nat} {sig : Nat} : x / 2 ^ (2 * sig) % 4 = 0 ↔ x.testBit (lbit sig false) = false ∧ x.testBit (lbit sig true) = false := by
  rw [mod4_bits, shift_bits, shift_bits]; rfl
def mskL (l : List ArcD) (n : Nat) : List Int := (List.range n).map fun k : Nat => ((mskN l (k : Int) : Nat) : Int)
theorem mskL_len (l : List ArcD) (n : Nat) : (mskL l n).length = n := by simp [mskL]
theorem mskL_nth {l : List ArcD} {n k : Nat} (h : k < n) : nth (mskL l n) k = ((mskN l (k : Int) : Nat) : Int) := by
  rw [nth_get (by rw [mskL_len]; exact h)]; simp [mskL]
theorem mskL_zero (n : Nat) : mskL [] n = List.replicate n 0 := by
  simp only [mskL, mskN]
  apply List.ext_getElem <;> simp
def lmask (sig : Int) (up : Bool) : Int := if up then 2 * 2 ^ (2 * sig).toNat else 1 * 2 ^ (2 * sig).toNat
theorem lmask_nat {sig : Int} {up : Bool} (h : 0 ≤ sig) : lmask sig up = ((2 ^ lbit sig.toNat up : Nat) : Int) := by
  obtain ⟨s, rfl⟩ := Int.eq_ofNat_of_zero_le h
  unfold lmask lbit
  rw [show (2 * ((s : Nat) : Int)).toNat = 2 * s by omega, Int.toNat_natCast]
  cases up
  · simp
  · simp [Nat.pow_succ, Int.mul_comm]
theorem mskL_yes {l : List ArcD} {n : Nat} {a : ArcD} (hl : sigsLe l) (ha : a.sig ≤ 7) (h : 0 ≤ a.sig) (hs : 0 ≤ a.src ∧ a.src < n) : mskL (l ++ [a]) n = (mskL l n).set a.src.toNat (orI (nth (mskL l n) a.src.toNat) (lmask a.sig a.up)) := by
  have hb : lbit a.sig.toNat a.up < 16 := by unfold lbit; split <;> omega
  have hp : 2 ^ lbit a.sig.toNat a.up < 65536 := Nat.lt_of_lt_of_eq (Nat.pow_lt_pow_right (a := 2) (by omega) hb) (by decide)
  rw [mskL_nth (k := a.src.toNat) (by omega), lmask_nat h, orI_nat (mskN_lt _ hl) hp]
  apply List.ext_getElem
  · simp [mskL]
  · intro i h1 h2
    rw [List.getElem_set]
    simp only [mskL, List.getElem_map, List.getElem_range, mskN_append]
    by_cases hi : a.src.toNat = i
    · rw [if_pos hi, if_pos ⟨by omega, h⟩]; subst hi; rw [Int.toNat_of_nonneg hs.1]
    · rw [if_neg hi, if_neg (by omega)]
theorem mskL_no {l : List ArcD} {n : Nat} {a : ArcD} (h : ¬ 0 ≤ a.sig) : mskL (l ++ [a]) n = mskL l n := by
  unfold mskL
  congr 1; funext k
  rw [mskN_append, if_neg (by omega)]

theorem pow_le {sig : Int} (h : 0 ≤ sig ∧ sig ≤ 7) : 1 ≤ (2 : Int) ^ (2 * sig).toNat ∧ (2 : Int) ^ (2 * sig).toNat ≤ 16384 := by
  have h1 : (2 * sig).toNat ≤ 14 := by omega
  have h2 : 2 ^ (2 * sig).toNat ≤ 2 ^ 14 := Nat.pow_le_pow_right (by omega) h1
  have h3 : 0 < 2 ^ (2 * sig).toNat := Nat.pow_pos (by omega)
  have e : ((2 ^ (2 * sig).toNat : Nat) : Int) = (2 : Int) ^ (2 * sig).toNat := by simp
  rw [← e]; omega

theorem labelMask_f (l : Lab) (h : 0 ≤ l.sig ∧ l.sig ≤ 7) : Fn Try.prog 162 [.agg (dLab l)] (.lit (.int .i64 (lmask l.sig l.up))) [] := by
  refine Fn_of Try.func162 rfl (by kernel_rfl) rfl rfl ?_
  intro w0 A hin
  have hp2 := pow_le h
  repeat' (first | refine goZ ?_ | ((first | refine R_cond rfl (fun hq => ?_) fun hq => ?_ | refine R_guardT rfl rfl rfl (fun hq => ?_) fun hq => ?_ | refine R_guardF rfl rfl rfl (fun hq => ?_) fun hq => ?_ | refine D_guardT rfl rfl rfl (fun hq => ?_) fun hq => ?_ | refine D_guardF rfl rfl rfl (fun hq => ?_) fun hq => ?_) <;> (try rw [hq]) <;> first | have hp := of_decide_eq_true hq | have hp := of_decide_eq_false hq | have hp := of_decide_eq_false (not_t hq) | have hp := of_decide_eq_true (not_f hq) | have hp := hq))
  · exact ret_int' rfl (by simp [lmask, hq])
  · exact ret_int' rfl (by simp [lmask, hq])

theorem labelMasks_f (c : SGraph) (hn : c.codes.length ≤ 300) (hm : c.arcs.length ≤ 4000) (hs : sigsLe c.arcs) (hE : EndsOk c) : Fn Try.prog 133 [.agg (dSGraph c)] (.own 0) [.arr 3 1 (ints (mskL c.arcs c.codes.length)) true] := by
  refine Fn_of Try.func133 rfl (by kernel_rfl) rfl rfl ?_
  intro w0 A hin
  have hza := len_dArcD c.arcs
  have hzc := len_strs c.codes
  repeat' (first | (refine R_makeZ tabOk rfl rfl rfl rfl rfl rfl rfl rfl rfl rfl rfl (by omega) ?_; rw [show List.replicate (strs c.codes).length [D.lit (.int .i64 0)] = ints (mskL [] c.codes.length) by rw [mskL_zero, hzc]; simp [ints]]) | refine go1 ?_ | ((first | refine R_cond rfl (fun hq => ?_) fun hq => ?_ | refine R_guardT rfl rfl rfl (fun hq => ?_) fun hq => ?_ | refine R_guardF rfl rfl rfl (fun hq => ?_) fun hq => ?_ | refine D_guardT rfl rfl rfl (fun hq => ?_) fun hq => ?_ | refine D_guardF rfl rfl rfl (fun hq => ?_) fun hq => ?_) <;> (try rw [hq]) <;> first | have hp := of_decide_eq_true hq | have hp := of_decide_eq_false hq | have hp := of_decide_eq_false (not_t hq) | have hp := of_decide_eq_true (not_f hq) | have hp := hq))
  refine W_loop (fun k : Nat => ⟨_, [(1, .ptr 0 0), (3, .own 1), (11, .sh 4 (c.arcs.map dArcD)), (12, .lit (.int .i64 c.arcs.length)), (13, .lit (.int .i64 k))], [.cells 35 (dSGraph c), .arr 3 1 (ints (mskL (c.arcs.take k) c.codes.length)) true]⟩) (fun k => k ≤ c.arcs.length) (fun k => c.arcs.length - k) 0 (Nat.zero_le _) (weakZ []) ?_
  intro k hk
  have hl := mskL_len (c.arcs.take k) c.codes.length
  have hl2 := len_ints (mskL (c.arcs.take k) c.codes.length)
  have hnth : ∀ h : k < c.arcs.length, (0 ≤ (nth c.arcs k).src ∧ (nth c.arcs k).src < c.codes.length) ∧ (nth c.arcs k).sig ≤ 7 := fun h => ⟨(hE _ (List.mem_map.2 ⟨nth c.arcs k, nth_mem h, rfl⟩)).1, hs _ (nth_mem h)⟩
  repeat' (first | refine goZ ?_ | refine R_callZ rfl (labelMask_f ⟨(nth c.arcs k).sig, (nth c.arcs k).up⟩ (by have := hnth (by omega); dsimp only; omega)) rfl rfl rfl ?_ | refine R_callvZ rfl (labelMask_f ⟨(nth c.arcs k).sig, (nth c.arcs k).up⟩ (by have := hnth (by omega); dsimp only; omega)) rfl rfl rfl rfl ?_ | refine D_callZ rfl (labelMask_f ⟨(nth c.arcs k).sig, (nth c.arcs k).up⟩ (by have := hnth (by omega); dsimp only; omega)) rfl rfl rfl ?_ | ((first | refine R_cond rfl (fun hq => ?_) fun hq => ?_ | refine R_guardT rfl rfl rfl (fun hq => ?_) fun hq => ?_ | refine R_guardF rfl rfl rfl (fun hq => ?_) fun hq => ?_ | refine D_guardT rfl rfl rfl (fun hq => ?_) fun hq => ?_ | refine D_guardF rfl rfl rfl (fun hq => ?_) fun hq => ?_) <;> (try rw [hq]) <;> first | have hp := of_decide_eq_true hq | have hp := of_decide_eq_false hq | have hp := of_decide_eq_false (not_t hq) | have hp := of_decide_eq_true (not_f hq) | have hp := hq))
  · have hk2 : k < c.arcs.length := by omega
    have hsl : sigsLe (c.arcs.take k) := fun a ha => hs a (List.mem_of_mem_take ha)
    refine ⟨k + 1, by omega, by omega, ?_⟩
    simp only [take_nth hk2, mskL_yes hsl (hnth hk2).2 hp (hnth hk2).1]
    exact weakZ _
  · have hk2 : k < c.arcs.length := by omega
    refine ⟨k + 1, by omega, by omega, ?_⟩
    simp only [take_nth hk2, mskL_no hp]
    exact weakZ _
  · exact ret_own rfl rfl (by rw [List.take_of_length_le (by omega)])
end Go.Proofs.Ytcmedjlpaondjaa
namespace Go.Proofs.Ytcmedjlpaondjaa
open Go.ChangeShapes Go.WideShapes Go.ChangeAt Go.RowKit

theorem sigs_of {c : SGraph} (h : goodSG c = true) : sigsLe c.arcs := by
  intro a ha
  have hl := goodSG_len h
  simp only [goodSG, sgB, Bool.and_eq_true] at h
  have h1 := List.all_eq_true.1 h.1.2.2 a ha
  simp only [arcB, labB, Bool.and_eq_true, Bool.or_eq_true, decide_eq_true_eq] at h1
  omega
theorem ends_ok {c : SGraph} (h : goodSG c = true) : EndsOk c := by
  simp only [goodSG, sgB, Bool.and_eq_true] at h
  exact ends_of h.1.2.2

/-- The arc i disables an edge of the signal. -/
def disU (c : SGraph) (sig : Int) (up : Bool) (i : Nat) : Bool := !decide ((nth c.arcs i).sig = sig) && (hasA c.arcs (nth c.arcs i).src sig up && !hasA c.arcs (nth c.arcs i).dst sig up)
def disP (c : SGraph) (sig : Int) (i : Nat) : Bool := disU c sig false i || disU c sig true i
theorem disP_eq (c : SGraph) (sig : Int) (i : Nat) : disP c sig i = (!decide ((nth c.arcs i).sig = sig) && ((hasA c.arcs (nth c.arcs i).src sig false && !hasA c.arcs (nth c.arcs i).dst sig false) || (hasA c.arcs (nth c.arcs i).src sig true && !hasA c.arcs (nth c.arcs i).dst sig true))) := by
  rw [disP, disU, disU, Bool.and_or_distrib_left]
def disL (c : SGraph) (sig : Int) : List Int := pickN (disP c sig) c.arcs.length
noncomputable def disR (c : SGraph) (sig : Int) : List Int := if askB c sig then disL c sig else []
theorem disR_len (c : SGraph) (sig : Int) : (disR c sig).length ≤ 4000 := by
  unfold disR
  split
  · rename_i h
    have := goodSG_len (askB_good h).1; have := pickN_len (disP c sig) c.arcs.length
    unfold disL; omega
  · simp

theorem mask_test {l : List ArcD} {n : Nat} {s t sig : Int} (hl : sigsLe l) (hs : 0 ≤ s ∧ s < n) (ht : 0 ≤ t ∧ t < n) (hg : 0 ≤ sig ∧ sig ≤ 7) :
    decide (andI (andNotI (nth (mskL l n) s.toNat) (nth (mskL l n) t.toNat) / 2 ^ (2 * sig).toNat) 3 = 0) = !((hasA l s sig false && !hasA l t sig false) || (hasA l s sig true && !hasA l t sig true)) := by
  obtain ⟨g, rfl⟩ := Int.eq_ofNat_of_zero_le hg.1
  have h1 := mskN_lt s hl
  have h2 := lessBits_le (mskN l s) (mskN l t) h1
  rw [mskL_nth (k := s.toNat) (by omega), mskL_nth (k := t.toNat) (by omega), Int.toNat_of_nonneg hs.1, Int.toNat_of_nonneg ht.1, andNotI_nat h1, show (2 * (g : Int)).toNat = 2 * g by omega]
  have e : ((lessBits (mskN l s) (mskN l t) : Nat) : Int) / 2 ^ (2 * g) = ((lessBits (mskN l s) (mskN l t) / 2 ^ (2 * g) : Nat) : Int) := by simp
  have h3 : lessBits (mskN l s) (mskN l t) / 2 ^ (2 * g) < 65536 := Nat.lt_of_le_of_lt (Nat.div_le_self _ _) h2
  rw [e, andI_three _ h3]
  have hb : ∀ up, (lessBits (mskN l s) (mskN l t)).testBit (lbit g up) = (hasA l s g up && !hasA l t g up) := fun up => by
    rw [lessBits_bit h1 (by unfold lbit; split <;> omega), mskN_bit, mskN_bit]
  have key := bits_of (x := lessBits (mskN l s) (mskN l t)) (sig := g)
  rw [hb, hb] at key
  rw [Bool.eq_iff_iff, decide_eq_true_eq, Bool.not_eq_true', Bool.or_eq_false_iff, ← key]
  omega

/-! ### The reference -/
theorem exL_has (c : SGraph) (x sig : Int) (up : Bool) : decide (x ∈ exL c.arcs sig up) = hasA c.arcs x sig up := by
  rw [Bool.eq_iff_iff, decide_eq_true_eq, exL_mem, hasA, List.any_eq_true]
  constructor
  · rintro ⟨a, h1, h2, h3⟩; exact ⟨a, h1, by rw [h2, h3]; simp⟩
  · rintro ⟨a, h1, h2⟩
    simp only [Bool.and_eq_true, decide_eq_true_eq] at h2
    exact ⟨a, h1, h2.2, h2.1⟩
def putAll (r l : List Int) : List Int := l.foldl putI r
theorem putAll_snoc (r l : List Int) (x : Int) : putAll r (l ++ [x]) = putI (putAll r l) x := by simp [putAll, List.foldl_append]
/-- What the reference's list is behind so many kinds of labels. -/
def disO (c : SGraph) (sig : Int) : Nat → List Int
  | 0 => []
  | u + 1 => putAll (disO c sig u) (pickN (disU c sig (nth [false, true] u)) c.arcs.length)
theorem putAll_spec (l r : List Int) (h : Inc r) : Inc (putAll r l) ∧ (∀ x, x ∈ putAll r l ↔ x ∈ r ∨ x ∈ l) ∧ (putAll r l).length ≤ r.length + l.length := by
  have := put_fold (fun x : Int => x) l r h
  exact ⟨this.1, fun x => by have h := this.2.1 x; simp only [exists_eq_right] at h; exact h, this.2.2⟩
theorem disO_inc (c : SGraph) (sig : Int) : ∀ u, Inc (disO c sig u)
  | 0 => by simp [disO, Inc]
  | u + 1 => (putAll_spec _ _ (disO_inc c sig u)).1
theorem disO_len (c : SGraph) (sig : Int) : ∀ u, (disO c sig u).length ≤ u * c.arcs.length
  | 0 => by simp [disO]
  | u + 1 => by
    have h1 := disO_len c sig u
    have h2 := (putAll_spec (pickN (disU c sig (nth [false, true] u)) c.arcs.length) _ (disO_inc c sig u)).2.2
    have h3 := pickN_len (disU c sig (nth [false, true] u)) c.arcs.length
    rw [Nat.add_mul]; simp only [disO]; omega
theorem pickN_mem {p : Nat → Bool} {n : Nat} {x : Int} : x ∈ pickN p n ↔ ∃ i : Nat, i < n ∧ p i = true ∧ (i : Int) = x := by
  simp [pickN, and_assoc]
theorem pickN_inc (p : Nat → Bool) (n : Nat) : Inc (pickN p n) := by
  unfold pickN Inc
  rw [List.pairwise_map]
  refine List.Pairwise.imp (fun h => by omega) ((List.pairwise_lt_range).filter _)
theorem disO_two (c : SGraph) (sig : Int) : disO c sig 2 = disL c sig := by
  refine inc_ext (disO_inc c sig 2) (pickN_inc _ _) fun x => ?_
  have h1 := (putAll_spec (pickN (disU c sig true) c.arcs.length) _ (disO_inc c sig 1)).2.1 x
  have h0 := (putAll_spec (pickN (disU c sig false) c.arcs.length) _ (disO_inc c sig 0)).2.1 x
  show x ∈ putAll (disO c sig 1) (pickN (disU c sig true) c.arcs.length) ↔ x ∈ disL c sig
  rw [h1, show disO c sig 1 = putAll (disO c sig 0) (pickN (disU c sig false) c.arcs.length) from rfl, h0, disL, pickN_mem, pickN_mem, pickN_mem]
  simp only [disO, List.not_mem_nil, false_or, disP, Bool.or_eq_true]
  constructor
  · rintro (⟨i, a, b, e⟩ | ⟨i, a, b, e⟩)
    · exact ⟨i, a, Or.inl b, e⟩
    · exact ⟨i, a, Or.inr b, e⟩
  · rintro ⟨i, a, b | b, e⟩
    · exact Or.inl ⟨i, a, b, e⟩
    · exact Or.inr ⟨i, a, b, e⟩

end Go.Proofs.Ytcmedjlpaondjaa
