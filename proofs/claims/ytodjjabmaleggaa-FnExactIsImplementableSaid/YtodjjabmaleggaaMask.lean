/- Bits of labels: what impl.labelMasks hands back, and what its bits say. No condition. -/
import Derived.Test.YtodjjabmaleggaaPut
set_option linter.unusedSimpArgs false
set_option linter.unusedVariables false
set_option maxHeartbeats 2000000
namespace Go.Proofs.Ytodjjabmaleggaa
open Go.ChangeShapes Go.WideShapes Go.ChangeAt Go.RowKit

/-! ### Bits of small numbers -/
theorem wrap_small {n : Nat} (h : n < 9223372036854775808) : IntKind.i64.wrap (n : Int) = (n : Int) := wrap_i64 ⟨by omega, by omega⟩
theorem ofInt_nat (n : Nat) : BitVec.ofInt 64 (n : Int) = BitVec.ofNat 64 n := by simp
theorem lt63 {n : Nat} (h : n < 65536) : n % 2 ^ 64 = n := Nat.mod_eq_of_lt (by omega)
theorem orI_nat {x y : Nat} (hx : x < 65536) (hy : y < 65536) : orI (x : Int) (y : Int) = ((x ||| y : Nat) : Int) := by
  have h : x ||| y < 2 ^ 16 := Nat.or_lt_two_pow (by omega) (by omega)
  unfold orI
  rw [ofInt_nat, ofInt_nat, BitVec.toNat_or, BitVec.toNat_ofNat, BitVec.toNat_ofNat, lt63 hx, lt63 hy, wrap_small (by omega)]
theorem andI_three (x : Nat) (hx : x < 65536) : andI (x : Int) 3 = ((x % 4 : Nat) : Int) := by
  unfold andI
  rw [show (3 : Int) = ((3 : Nat) : Int) from rfl, ofInt_nat, ofInt_nat, BitVec.toNat_and, BitVec.toNat_ofNat, BitVec.toNat_ofNat, lt63 hx, lt63 (by omega)]
  have : x &&& 3 = x % 4 := Nat.and_two_pow_sub_one_eq_mod x 2
  rw [this, wrap_small (by omega)]
/-- x without the bits of y. -/
def lessBits (x y : Nat) : Nat := (BitVec.ofNat 64 x &&& ~~~ BitVec.ofNat 64 y).toNat
theorem lessBits_bit {x y i : Nat} (hx : x < 65536) (hi : i < 64) : (lessBits x y).testBit i = (x.testBit i && !y.testBit i) := by
  unfold lessBits
  rw [BitVec.testBit_toNat, BitVec.getLsbD_and, BitVec.getLsbD_not, BitVec.getLsbD_ofNat, BitVec.getLsbD_ofNat]
  simp [hi]
theorem lessBits_le (x y : Nat) (hx : x < 65536) : lessBits x y < 65536 := by
  unfold lessBits
  rw [BitVec.toNat_and, BitVec.toNat_ofNat, lt63 hx]
  exact Nat.lt_of_le_of_lt Nat.and_le_left hx
theorem andNotI_nat {x y : Nat} (hx : x < 65536) : andNotI (x : Int) (y : Int) = ((lessBits x y : Nat) : Int) := by
  have h := lessBits_le x y hx
  unfold andNotI
  rw [ofInt_nat, ofInt_nat]
  exact wrap_small (by unfold lessBits at h; omega)
theorem mod4_bits (x : Nat) : x % 4 = 0 ↔ x.testBit 0 = false ∧ x.testBit 1 = false := by
  rw [Nat.testBit_zero, Nat.testBit_succ, Nat.testBit_zero, decide_eq_false_iff_not, decide_eq_false_iff_not]
  omega
theorem shift_bits (x s i : Nat) : (x / 2 ^ s).testBit i = x.testBit (s + i) := by
  rw [← Nat.shiftRight_eq_div_pow, Nat.testBit_shiftRight]

/-! ### The masks -/
def lbit (sig : Nat) (up : Bool) : Nat := 2 * sig + (if up then 1 else 0)
def hasA (l : List ArcD) (k : Int) (sig : Int) (up : Bool) : Bool := l.any fun a => decide (a.src = k) && isA sig up a
/-- What labelMasks' cell of a state holds behind so many arcs. -/
def mskN : List ArcD → Int → Nat
  | [], _ => 0
  | a :: l, k => if a.src = k ∧ 0 ≤ a.sig then 2 ^ lbit a.sig.toNat a.up ||| mskN l k else mskN l k
theorem mskN_append : ∀ (l : List ArcD) (a : ArcD) (k : Int), mskN (l ++ [a]) k = if a.src = k ∧ 0 ≤ a.sig then mskN l k ||| 2 ^ lbit a.sig.toNat a.up else mskN l k
  | [], a, k => by simp only [List.nil_append, mskN]; split <;> simp
  | b :: l, a, k => by
    simp only [List.cons_append, mskN, mskN_append l a k]
    split <;> split <;> simp [Nat.or_assoc]
def sigsLe (l : List ArcD) : Prop := ∀ a ∈ l, a.sig ≤ 7
theorem mskN_lt : ∀ {l : List ArcD} (k : Int), sigsLe l → mskN l k < 65536
  | [], _, _ => by simp [mskN]
  | a :: l, k, h => by
    have ih := mskN_lt (l := l) k fun b hb => h b (List.mem_cons_of_mem _ hb)
    have ha := h a (by simp)
    simp only [mskN]; split
    · rename_i hc
      have hb : lbit a.sig.toNat a.up < 16 := by unfold lbit; split <;> omega
      exact Nat.or_lt_two_pow (n := 16) (Nat.pow_lt_pow_right (by omega) hb) ih
    · exact ih
theorem lbit_inj {s s' : Nat} {u u' : Bool} (h : lbit s u = lbit s' u') : s = s' ∧ u = u' := by
  unfold lbit at h
  cases u <;> cases u' <;> simp at h ⊢ <;> omega
theorem mskN_bit : ∀ (l : List ArcD) (k : Int) (sig : Nat) (up : Bool), (mskN l k).testBit (lbit sig up) = hasA l k sig up
  | [], _, _, _ => by simp [mskN, hasA]
  | a :: l, k, sig, up => by
    have ih := mskN_bit l k sig up
    simp only [hasA, List.any_cons] at ih ⊢
    simp only [mskN]
    split
    · rename_i hc
      rw [Nat.testBit_or, ih, Nat.testBit_two_pow]
      congr 1
      simp only [isA]
      by_cases h : lbit a.sig.toNat a.up = lbit sig up
      · obtain ⟨h1, h2⟩ := lbit_inj h
        have : a.sig = (sig : Int) := by omega
        simp [hc.1, this, h2]
      · have : ¬ (a.sig = (sig : Int) ∧ a.up = up) := by
          rintro ⟨h1, h2⟩; apply h; rw [h1, h2]; rfl
        rw [decide_eq_false h]
        cases hs : decide (a.sig = (sig : Int))
        · simp
        · have hu : a.up ≠ up := fun e => this ⟨of_decide_eq_true hs, e⟩
          simp [hu]
    · rename_i hc
      rw [ih]
      have : (decide (a.src = k) && isA (sig : Int) up a) = false := by
        simp only [isA]
        by_cases h : a.src = k
        · have : ¬ 0 ≤ a.sig := fun h2 => hc ⟨h, h2⟩
          have : ¬ a.sig = (sig : Int) := by omega
          simp [this]
        · simp [h]
      rw [this, Bool.false_or]

/-- The test of a signal's bits: the arcs of a state have a label of it. -/
theorem bits_of {x : Nat} {sig : Nat} : x / 2 ^ (2 * sig) % 4 = 0 ↔ x.testBit (lbit sig false) = false ∧ x.testBit (lbit sig true) = false := by
  rw [mod4_bits, shift_bits, shift_bits]; rfl
def mskL (l : List ArcD) (n : Nat) : List Int := (List.range n).map fun k : Nat => ((mskN l (k : Int) : Nat) : Int)
theorem mskL_len (l : List ArcD) (n : Nat) : (mskL l n).length = n := by simp [mskL]
theorem mskL_nth {l : List ArcD} {n k : Nat} (h : k < n) : nth (mskL l n) k = ((mskN l (k : Int) : Nat) : Int) := by
  rw [nth_get (by rw [mskL_len]; exact h)]; simp [mskL]
theorem mskL_zero (n : Nat) : mskL [] n = List.replicate n 0 := by
  simp only [mskL, mskN]
  apply List.ext_getElem <;> simp
def lmask (sig : Int) (up : Bool) : Int := if up then 2 * 2 ^ (2 * sig).toNat else 1 * 2 ^ (2 * sig).toNat
theorem lmask_nat {sig : Int} {up : Bool} (h : 0 ≤ sig) : lmask sig up = ((2 ^ lbit sig.toNat up : Nat) : Int) := by
  obtain ⟨s, rfl⟩ := Int.eq_ofNat_of_zero_le h
  unfold lmask lbit
  rw [show (2 * ((s : Nat) : Int)).toNat = 2 * s by omega, Int.toNat_natCast]
  cases up
  · simp
  · simp [Nat.pow_succ, Int.mul_comm]
theorem mskL_yes {l : List ArcD} {n : Nat} {a : ArcD} (hl : sigsLe l) (ha : a.sig ≤ 7) (h : 0 ≤ a.sig) (hs : 0 ≤ a.src ∧ a.src < n) : mskL (l ++ [a]) n = (mskL l n).set a.src.toNat (orI (nth (mskL l n) a.src.toNat) (lmask a.sig a.up)) := by
  have hb : lbit a.sig.toNat a.up < 16 := by unfold lbit; split <;> omega
  have hp : 2 ^ lbit a.sig.toNat a.up < 65536 := Nat.lt_of_lt_of_eq (Nat.pow_lt_pow_right (a := 2) (by omega) hb) (by decide)
  rw [mskL_nth (k := a.src.toNat) (by omega), lmask_nat h, orI_nat (mskN_lt _ hl) hp]
  apply List.ext_getElem
  · simp [mskL]
  · intro i h1 h2
    rw [List.getElem_set]
    simp only [mskL, List.getElem_map, List.getElem_range, mskN_append]
    by_cases hi : a.src.toNat = i
    · rw [if_pos hi, if_pos ⟨by omega, h⟩]; subst hi; rw [Int.toNat_of_nonneg hs.1]
    · rw [if_neg hi, if_neg (by omega)]
theorem mskL_no {l : List ArcD} {n : Nat} {a : ArcD} (h : ¬ 0 ≤ a.sig) : mskL (l ++ [a]) n = mskL l n := by
  unfold mskL
  congr 1; funext k
  rw [mskN_append, if_neg (by omega)]

theorem pow_le {sig : Int} (h : 0 ≤ sig ∧ sig ≤ 7) : 1 ≤ (2 : Int) ^ (2 * sig).toNat ∧ (2 : Int) ^ (2 * sig).toNat ≤ 16384 := by
  have h1 : (2 * sig).toNat ≤ 14 := by omega
  have h2 : 2 ^ (2 * sig).toNat ≤ 2 ^ 14 := Nat.pow_le_pow_right (by omega) h1
  have h3 : 0 < 2 ^ (2 * sig).toNat := Nat.pow_pos (by omega)
  have e : ((2 ^ (2 * sig).toNat : Nat) : Int) = (2 : Int) ^ (2 * sig).toNat := by simp
  rw [← e]; omega

theorem labelMask_f (l : Lab) (h : 0 ≤ l.sig ∧ l.sig ≤ 7) : Fn Try.prog 210 [.agg (dLab l)] (.lit (.int .i64 (lmask l.sig l.up))) [] := by
  refine Fn_of Try.func210 rfl (by kernel_rfl) rfl rfl ?_
  intro w0 A hin
  have hp2 := pow_le h
  repeat' (first | refine goZ ?_ | ((first | refine R_cond rfl (fun hq => ?_) fun hq => ?_ | refine R_guardT rfl rfl rfl (fun hq => ?_) fun hq => ?_ | refine R_guardF rfl rfl rfl (fun hq => ?_) fun hq => ?_ | refine D_guardT rfl rfl rfl (fun hq => ?_) fun hq => ?_ | refine D_guardF rfl rfl rfl (fun hq => ?_) fun hq => ?_) <;> (try rw [hq]) <;> first | have hp := of_decide_eq_true hq | have hp := of_decide_eq_false hq | have hp := of_decide_eq_false (not_t hq) | have hp := of_decide_eq_true (not_f hq) | have hp := hq))
  · exact ret_int' rfl (by simp [lmask, hq])
  · exact ret_int' rfl (by simp [lmask, hq])

theorem labelMasks_f (c : SGraph) (hn : c.codes.length ≤ 300) (hm : c.arcs.length ≤ 4000) (hs : sigsLe c.arcs) (hE : EndsOk c) : Fn Try.prog 168 [.agg (dSGraph c)] (.own 0) [.arr 3 1 (ints (mskL c.arcs c.codes.length)) true] := by
  refine Fn_of Try.func168 rfl (by kernel_rfl) rfl rfl ?_
  intro w0 A hin
  have hza := len_dArcD c.arcs
  have hzc := len_strs c.codes
  repeat' (first | (refine R_makeZ tabOk rfl rfl rfl rfl rfl rfl rfl rfl rfl rfl rfl (by omega) ?_; rw [show List.replicate (strs c.codes).length [D.lit (.int .i64 0)] = ints (mskL [] c.codes.length) by rw [mskL_zero, hzc]; simp [ints]]) | refine go1 ?_ | ((first | refine R_cond rfl (fun hq => ?_) fun hq => ?_ | refine R_guardT rfl rfl rfl (fun hq => ?_) fun hq => ?_ | refine R_guardF rfl rfl rfl (fun hq => ?_) fun hq => ?_ | refine D_guardT rfl rfl rfl (fun hq => ?_) fun hq => ?_ | refine D_guardF rfl rfl rfl (fun hq => ?_) fun hq => ?_) <;> (try rw [hq]) <;> first | have hp := of_decide_eq_true hq | have hp := of_decide_eq_false hq | have hp := of_decide_eq_false (not_t hq) | have hp := of_decide_eq_true (not_f hq) | have hp := hq))
  refine W_loop (fun k : Nat => ⟨_, [(1, .ptr 0 0), (3, .own 1), (11, .sh 4 (c.arcs.map dArcD)), (12, .lit (.int .i64 c.arcs.length)), (13, .lit (.int .i64 k))], [.cells 69 (dSGraph c), .arr 3 1 (ints (mskL (c.arcs.take k) c.codes.length)) true]⟩) (fun k => k ≤ c.arcs.length) (fun k => c.arcs.length - k) 0 (Nat.zero_le _) (weakZ []) ?_
  intro k hk
  have hl := mskL_len (c.arcs.take k) c.codes.length
  have hl2 := len_ints (mskL (c.arcs.take k) c.codes.length)
  have hnth : ∀ h : k < c.arcs.length, (0 ≤ (nth c.arcs k).src ∧ (nth c.arcs k).src < c.codes.length) ∧ (nth c.arcs k).sig ≤ 7 := fun h => ⟨(hE _ (List.mem_map.2 ⟨nth c.arcs k, nth_mem h, rfl⟩)).1, hs _ (nth_mem h)⟩
  repeat' (first | refine goZ ?_ | refine R_callZ rfl (labelMask_f ⟨(nth c.arcs k).sig, (nth c.arcs k).up⟩ (by have := hnth (by omega); dsimp only; omega)) rfl rfl rfl ?_ | refine R_callvZ rfl (labelMask_f ⟨(nth c.arcs k).sig, (nth c.arcs k).up⟩ (by have := hnth (by omega); dsimp only; omega)) rfl rfl rfl rfl ?_ | refine D_callZ rfl (labelMask_f ⟨(nth c.arcs k).sig, (nth c.arcs k).up⟩ (by have := hnth (by omega); dsimp only; omega)) rfl rfl rfl ?_ | ((first | refine R_cond rfl (fun hq => ?_) fun hq => ?_ | refine R_guardT rfl rfl rfl (fun hq => ?_) fun hq => ?_ | refine R_guardF rfl rfl rfl (fun hq => ?_) fun hq => ?_ | refine D_guardT rfl rfl rfl (fun hq => ?_) fun hq => ?_ | refine D_guardF rfl rfl rfl (fun hq => ?_) fun hq => ?_) <;> (try rw [hq]) <;> first | have hp := of_decide_eq_true hq | have hp := of_decide_eq_false hq | have hp := of_decide_eq_false (not_t hq) | have hp := of_decide_eq_true (not_f hq) | have hp := hq))
  · have hk2 : k < c.arcs.length := by omega
    have hsl : sigsLe (c.arcs.take k) := fun a ha => hs a (List.mem_of_mem_take ha)
    refine ⟨k + 1, by omega, by omega, ?_⟩
    simp only [take_nth hk2, mskL_yes hsl (hnth hk2).2 hp (hnth hk2).1]
    exact weakZ _
  · have hk2 : k < c.arcs.length := by omega
    refine ⟨k + 1, by omega, by omega, ?_⟩
    simp only [take_nth hk2, mskL_no hp]
    exact weakZ _
  · exact ret_own rfl rfl (by rw [List.take_of_length_le (by omega)])
end Go.Proofs.Ytodjjabmaleggaa
