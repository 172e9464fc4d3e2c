/- IsValidNet, the reference's and the program's: what they compute. IsValidNet, the reference's and the program's: both answer goodNet. The reference's l1Good answers goodNet. -/
import Derived.Test.YtcmedjlpaondjaaLibc
set_option linter.unusedSimpArgs false
set_option linter.unusedVariables false
namespace Go.Proofs.Ytcmedjlpaondjaa
open Go.ChangeShapes Go.WideShapes Go.ChangeAt Go.RowKit

theorem within_c (w : World) (n lo hi : Int) : Calls Try.prog 119 #[.int .i64 n, .int .i64 lo, .int .i64 hi] w fun e w' => e = .returned (.bool (decide (lo ≤ n ∧ n ≤ hi))) ∧ Ext w w' := by
  by_cases h : lo ≤ n
  all_goals
    go_enter Try.func119, Try.ntmps119
    go_wp2
    go_ret
    refine ⟨ret_bool ?_, Ext.refl _⟩
    simp <;> omega

theorem l1In_c (w : World) (n lo hi : Int) : Calls Try.prog 81 #[.int .i64 n, .int .i64 lo, .int .i64 hi] w fun e w' => e = .returned (.bool (decide (lo ≤ n ∧ n ≤ hi))) ∧ Ext w w' := by
  by_cases h : lo ≤ n
  all_goals
    go_enter Try.func81, Try.ntmps81
    go_wp2
    go_ret
    refine ⟨ret_bool ?_, Ext.refl _⟩
    simp <;> omega

/-- Strictly rising numbers within bounds. -/
def risingFrom (lo hi : Int) : Option Int → List Int → Bool
  | _, [] => true
  | prev, x :: l => decide (lo ≤ x ∧ x ≤ hi) && (match prev with | none => true | some p => decide (p < x)) && risingFrom lo hi (some x) l
theorem risingFrom_cons (lo hi : Int) (prev : Option Int) (x : Int) (l : List Int) : risingFrom lo hi prev (x :: l) = (decide (lo ≤ x ∧ x ≤ hi) && (match prev with | none => true | some p => decide (p < x)) && risingFrom lo hi (some x) l) := by cases prev <;> rfl
def prevOf (l : List Int) (k : Nat) : Option Int := if k = 0 then none else some (nth l (k - 1))
def risingL (lo hi : Int) (l : List Int) : Bool := risingFrom lo hi none l
theorem risingL_out (lo hi : Int) (l : List Int) {k : Nat} (h : k < l.length) (h1 : ¬ (lo ≤ nth l k ∧ nth l k ≤ hi)) : risingFrom lo hi (prevOf l k) (l.drop k) = false := by
  rw [drop_nth h, risingFrom_cons]; simp [h1]
theorem risingL_in0 (lo hi : Int) (l : List Int) {k : Nat} (h : k < l.length) (hk : k = 0) (h1 : lo ≤ nth l k ∧ nth l k ≤ hi) : risingFrom lo hi (prevOf l k) (l.drop k) = risingFrom lo hi (prevOf l (k + 1)) (l.drop (k + 1)) := by
  subst hk; rw [drop_nth h, risingFrom_cons]; simp [h1, prevOf]
theorem risingL_in (lo hi : Int) (l : List Int) {k : Nat} (h : k < l.length) (hk : 0 < k) (h1 : lo ≤ nth l k ∧ nth l k ≤ hi) (h2 : nth l (k - 1) < nth l k) : risingFrom lo hi (prevOf l k) (l.drop k) = risingFrom lo hi (prevOf l (k + 1)) (l.drop (k + 1)) := by
  rw [drop_nth h, risingFrom_cons]; simp [h1, prevOf, show k ≠ 0 by omega, h2]
theorem risingL_no (lo hi : Int) (l : List Int) {k : Nat} (h : k < l.length) (hk : 0 < k) (h2 : ¬ nth l (k - 1) < nth l k) : risingFrom lo hi (prevOf l k) (l.drop k) = false := by
  rw [drop_nth h, risingFrom_cons]; simp [prevOf, show k ≠ 0 by omega, h2]

set_option maxHeartbeats 400000 in
theorem l1Rising_c (w : World) (a : Option Addr) (c : Nat) (l : List Int) (lo hi : Int) (h : (tSl tInt).R w l [.slice a l.length c]) :
    Calls Try.prog 102 #[.slice a l.length c, .int .i64 lo, .int .i64 hi] w fun e w' => e = .returned (.bool (risingL lo hi l)) ∧ Ext w w' := by
  have hn := R_len h
  obtain ⟨_, _, _, _, hs⟩ := R_sl.1 h
  clear h
  go_enter Try.func102, Try.ntmps102
  go_wp2
  go_loopw [11] (fun i wr => ∃ k : Nat, k ≤ l.length ∧ i = .int .i64 k ∧ risingL lo hi l = risingFrom lo hi (prevOf l k) (l.drop k) ∧ Ext w wr) (fun i _ => l.length - (intOf i).toNat)
  case atStart => exact ⟨0, Nat.zero_le _, rfl, rfl, Ext.refl _⟩
  case round =>
    obtain ⟨k, hk, rfl, hr, hb⟩ := hrel
    have HR := Lib.hid hr
    clear hr
    by_cases hlt : k < l.length
    · obtain ⟨b, o, rfl, hbs, hel⟩ := hs.get (by omega)
      have hc := (at_int ((hel k hlt).ext hb hbs)).1
      have hc1 := (at_int ((hel (k - 1) (by omega)).ext hb hbs)).1
      simp only [tInt, Nat.mul_one] at hc hc1
      clear hel
      by_cases h1 : lo ≤ nth l k ∧ nth l k ≤ hi
      · have HD := Lib.hid (show decide (lo ≤ nth l k ∧ nth l k ≤ hi) = true by simp [h1])
        have H1 := Lib.hid h1
        clear h1
        rcases Nat.eq_zero_or_pos k with hk0 | hk0
        · have HQ := Lib.hid (risingL_in0 lo hi l hlt hk0 H1.out)
          have hp0 : decide (0 < (k : Int)) = false := by simp; omega
          have hk1 : k < 1 := by omega
          clear hk0
          go_wp2_with fail
          refine (l1In_c _ _ _ _).mono ?_
          rintro e w2 ⟨rfl, hx⟩
          rw [HD.out]
          go_wp2
          go_roundw
          case rel => exact ⟨k + 1, by omega, by go_num, by rw [HR.out, HQ.out], hb.trans hx⟩
          case measure => simp [intOf]; omega
        · have hp0 : decide (0 < (k : Int)) = true := by simp; omega
          by_cases h2 : nth l (k - 1) < nth l k
          · have HQ := Lib.hid (risingL_in lo hi l hlt hk0 H1.out h2)
            have h3 : decide (nth l k ≤ nth l (k - 1)) = false := by simp; omega
            go_wp2_with fail
            refine (l1In_c _ _ _ _).mono ?_
            rintro e w2 ⟨rfl, hx⟩
            rw [HD.out]
            have hd1 : w2.cell? ⟨b, o + (k - 1), none⟩ = some (.int .i64 (nth l (k - 1))) := by rw [hx.cell (lt_of_cell hc1)]; exact hc1
            go_wp2
            go_roundw
            case rel => exact ⟨k + 1, by omega, by go_num, by rw [HR.out, HQ.out], hb.trans hx⟩
            case measure => simp [intOf]; omega
          · have HQ := Lib.hid (risingL_no lo hi l hlt hk0 h2)
            have h3 : decide (nth l k ≤ nth l (k - 1)) = true := by simp; omega
            go_wp2_with fail
            refine (l1In_c _ _ _ _).mono ?_
            rintro e w2 ⟨rfl, hx⟩
            rw [HD.out]
            have hd1 : w2.cell? ⟨b, o + (k - 1), none⟩ = some (.int .i64 (nth l (k - 1))) := by rw [hx.cell (lt_of_cell hc1)]; exact hc1
            go_wp2
            go_ret
            exact ⟨ret_bool (by rw [HR.out, HQ.out]), hb.trans hx⟩
      · have HD := Lib.hid (show decide (lo ≤ nth l k ∧ nth l k ≤ hi) = false by simp [h1])
        have HQ := Lib.hid (risingL_out lo hi l hlt h1)
        clear h1
        go_wp2_with fail
        refine (l1In_c _ _ _ _).mono ?_
        rintro e w2 ⟨rfl, hx⟩
        rw [HD.out]
        go_wp2
        go_ret
        exact ⟨ret_bool (by rw [HR.out, HQ.out]), hb.trans hx⟩
    · obtain rfl : k = l.length := by omega
      go_wp2
      go_ret
      exact ⟨ret_bool (by rw [HR.out, drop_len _ (Nat.le_refl _)]; cases prevOf l l.length <;> rfl), hb⟩

set_option maxHeartbeats 400000 in
theorem isIncreasing_c (w : World) (a : Option Addr) (c : Nat) (l : List Int) (n : Int) (h : (tSl tInt).R w l [.slice a l.length c]) (hn1 : -9223372036854775808 < n) (hn2 : n ≤ 9223372036854775807) :
    Calls Try.prog 106 #[.slice a l.length c, .int .i64 n] w fun e w' => e = .returned (.bool (risingL 0 (n - 1) l)) ∧ Ext w w' := by
  have hn := R_len h
  obtain ⟨_, _, _, _, hs⟩ := R_sl.1 h
  clear h
  go_enter Try.func106, Try.ntmps106
  go_wp2
  go_loopw [9] (fun i wr => ∃ k : Nat, k ≤ l.length ∧ i = .int .i64 k ∧ risingL 0 (n - 1) l = risingFrom 0 (n - 1) (prevOf l k) (l.drop k) ∧ Ext w wr) (fun i _ => l.length - (intOf i).toNat)
  case atStart => exact ⟨0, Nat.zero_le _, rfl, rfl, Ext.refl _⟩
  case round =>
    obtain ⟨k, hk, rfl, hr, hb⟩ := hrel
    have HR := Lib.hid hr
    clear hr
    by_cases hlt : k < l.length
    · obtain ⟨b, o, rfl, hbs, hel⟩ := hs.get (by omega)
      have hc := (at_int ((hel k hlt).ext hb hbs)).1
      have hc1 := (at_int ((hel (k - 1) (by omega)).ext hb hbs)).1
      simp only [tInt, Nat.mul_one] at hc hc1
      clear hel
      by_cases h1 : 0 ≤ nth l k ∧ nth l k ≤ (n - 1)
      · have HD := Lib.hid (show decide (0 ≤ nth l k ∧ nth l k ≤ (n - 1)) = true by simp [h1])
        have H1 := Lib.hid h1
        clear h1
        rcases Nat.eq_zero_or_pos k with hk0 | hk0
        · have HQ := Lib.hid (risingL_in0 0 (n - 1) l hlt hk0 H1.out)
          have hp0 : decide (0 < (k : Int)) = false := by simp; omega
          have hk1 : k < 1 := by omega
          clear hk0
          go_wp2_with fail
          refine (within_c _ _ _ _).mono ?_
          rintro e w2 ⟨rfl, hx⟩
          rw [HD.out]
          go_wp2
          go_roundw
          case rel => exact ⟨k + 1, by omega, by go_num, by rw [HR.out, HQ.out], hb.trans hx⟩
          case measure => simp [intOf]; omega
        · have hp0 : decide (0 < (k : Int)) = true := by simp; omega
          by_cases h2 : nth l (k - 1) < nth l k
          · have HQ := Lib.hid (risingL_in 0 (n - 1) l hlt hk0 H1.out h2)
            have h3 : decide (nth l k ≤ nth l (k - 1)) = false := by simp; omega
            go_wp2_with fail
            refine (within_c _ _ _ _).mono ?_
            rintro e w2 ⟨rfl, hx⟩
            rw [HD.out]
            have hd1 : w2.cell? ⟨b, o + (k - 1), none⟩ = some (.int .i64 (nth l (k - 1))) := by rw [hx.cell (lt_of_cell hc1)]; exact hc1
            go_wp2
            go_roundw
            case rel => exact ⟨k + 1, by omega, by go_num, by rw [HR.out, HQ.out], hb.trans hx⟩
            case measure => simp [intOf]; omega
          · have HQ := Lib.hid (risingL_no 0 (n - 1) l hlt hk0 h2)
            have h3 : decide (nth l k ≤ nth l (k - 1)) = true := by simp; omega
            go_wp2_with fail
            refine (within_c _ _ _ _).mono ?_
            rintro e w2 ⟨rfl, hx⟩
            rw [HD.out]
            have hd1 : w2.cell? ⟨b, o + (k - 1), none⟩ = some (.int .i64 (nth l (k - 1))) := by rw [hx.cell (lt_of_cell hc1)]; exact hc1
            go_wp2
            go_ret
            exact ⟨ret_bool (by rw [HR.out, HQ.out]), hb.trans hx⟩
      · have HD := Lib.hid (show decide (0 ≤ nth l k ∧ nth l k ≤ (n - 1)) = false by simp [h1])
        have HQ := Lib.hid (risingL_out 0 (n - 1) l hlt h1)
        clear h1
        go_wp2_with fail
        refine (within_c _ _ _ _).mono ?_
        rintro e w2 ⟨rfl, hx⟩
        rw [HD.out]
        go_wp2
        go_ret
        exact ⟨ret_bool (by rw [HR.out, HQ.out]), hb.trans hx⟩
    · obtain rfl : k = l.length := by omega
      go_wp2
      go_ret
      exact ⟨ret_bool (by rw [HR.out, drop_len _ (Nat.le_refl _)]; cases prevOf l l.length <;> rfl), hb⟩
end Go.Proofs.Ytcmedjlpaondjaa
namespace Go.Proofs.Ytcmedjlpaondjaa
open Go.ChangeShapes Go.WideShapes Go.ChangeAt Go.RowKit

theorem cell_box (w : World) (cs : Array Value) (t : TypeId) (i : Nat) : (w.alloc (.cells cs t)).cell? ⟨w.heap.size, i, none⟩ = cs[i]? := by simp

def badTr (pl : Int) (x : Tr) : Bool := decide (x.pre.length = 0) || !risingL 0 (pl - 1) x.pre || !risingL 0 (pl - 1) x.post
def goodNet (n : NetD) : Bool := decide (1 ≤ n.places ∧ n.places ≤ 30) && decide (n.trs.length ≤ 24) && !n.trs.any (badTr n.places)

end Go.Proofs.Ytcmedjlpaondjaa
namespace Go.Proofs.Ytcmedjlpaondjaa
open Go.ChangeShapes Go.WideShapes Go.ChangeAt Go.RowKit

theorem any_drop {α : Type} [Inhabited α] (p : α → Bool) {l : List α} {k : Nat} (h : k < l.length) : (l.drop k).any p = (p (nth l k) || (l.drop (k + 1)).any p) := by
  rw [drop_nth h, List.any_cons]

end Go.Proofs.Ytcmedjlpaondjaa
