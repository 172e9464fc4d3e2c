/- IsValidNet, the reference's and the program's: what they compute. IsValidNet, the reference's and the program's: both answer goodNet. The reference's l1Good answers goodNet. -/
import Derived.Test.YtcpjhpjlcgcigaaGreatDoorLibc
set_option linter.unusedSimpArgs false
set_option linter.unusedVariables false
namespace Go.Proofs.YtcpjhpjlcgcigaaGreatDoor
open Go.ChangeShapes Go.WideShapes Go.ChangeAt Go.RowKit

theorem within_c (w : World) (n lo hi : Int) : Calls Tryz.prog 90 #[.int .i64 n, .int .i64 lo, .int .i64 hi] w fun e w' => e = .returned (.bool (decide (lo ≤ n ∧ n ≤ hi))) ∧ Ext w w' := by
  by_cases h : lo ≤ n
  all_goals
    go_enter Tryz.func90, Tryz.ntmps90
    go_wp2
    go_ret
    refine ⟨ret_bool ?_, Ext.refl _⟩
    simp <;> omega

theorem l1In_c (w : World) (n lo hi : Int) : Calls Tryz.prog 56 #[.int .i64 n, .int .i64 lo, .int .i64 hi] w fun e w' => e = .returned (.bool (decide (lo ≤ n ∧ n ≤ hi))) ∧ Ext w w' := by
  by_cases h : lo ≤ n
  all_goals
    go_enter Tryz.func56, Tryz.ntmps56
    go_wp2
    go_ret
    refine ⟨ret_bool ?_, Ext.refl _⟩
    simp <;> omega

set_option maxHeartbeats 400000 in
theorem IndexFunc_Tr_c (w : World) (a : Option Addr) (c : Nat) (l : List Tr) (h : (tSl tTr).R w l [.slice a l.length c]) (fid : FuncId) (caps : Array Value) (p : Tr → Bool) (hf : Plainf Tryz.prog fid)
    (hp : ∀ k, k < l.length → ∀ w' a0 c0 a1 c1, Ext w w' → tTr.R w' (nth l k) [.slice a0 (nth l k).pre.length c0, .slice a1 (nth l k).post.length c1] →
      Calls Tryz.prog fid (#[.agg #[.slice a0 (nth l k).pre.length c0, .slice a1 (nth l k).post.length c1]] ++ caps) w' fun e w'' => e = .returned (.bool (p (nth l k))) ∧ Ext w' w'') :
    Calls Tryz.prog 110 #[.slice a l.length c, .func (.func fid) #[] caps] w fun e w' => e = .returned (.int .i64 (findIx p l)) ∧ Ext w w' := by
  have hn := R_len h
  obtain ⟨_, _, _, _, hs⟩ := R_sl.1 h
  clear h
  have HP := Lib.hid hp
  clear hp
  go_enter Tryz.func110, Tryz.ntmps110
  go_wp2
  go_loopw [8] (fun i wr => ∃ k : Nat, k ≤ l.length ∧ i = .int .i64 k ∧ (∀ j, j < k → p (nth l j) = false) ∧ Ext w wr) (fun i _ => l.length - (intOf i).toNat)
  case atStart => exact ⟨0, Nat.zero_le _, rfl, by omega, Ext.refl _⟩
  case round =>
    obtain ⟨k, hk, rfl, hj, hb⟩ := hrel
    have HJ := Lib.hid hj
    clear hj
    by_cases hlt : k < l.length
    · obtain ⟨b, o, rfl, hbs, hel⟩ := hs.get (by omega)
      obtain ⟨a0, c0, a1, c1, hc0, hc1, hR⟩ := at_Tr ((hel k hlt).ext hb hbs)
      simp only [show tTr.n = 2 from rfl] at hc0 hc1
      have HR := Lib.hid hR
      clear hel hR
      have hf' := hf
      unfold Plainf at hf'
      go_wp2_with fail
      refine (HP.out k hlt _ _ _ _ _ hb HR.out).mono ?_
      rintro e w2 ⟨rfl, hx⟩
      have hb2 := hb.trans hx
      by_cases hq : p (nth l k) = true
      · have HQ := Lib.hid (findIx_at p hlt HJ.out hq)
        rw [hq]
        clear hf' hq
        go_wp2
        go_ret
        exact ⟨ret_int (by rw [HQ.out]), hb2⟩
      · rw [Bool.not_eq_true] at hq
        have HQ := Lib.hid hq
        rw [hq]
        clear hf' hq
        go_wp2
        go_roundw
        case rel => exact ⟨k + 1, by omega, by go_num, fun j hj => by by_cases e : j = k; (rw [e]; exact HQ.out); exact HJ.out j (by omega), hb2⟩
        case measure => simp [intOf]; omega
    · obtain rfl : k = l.length := by omega
      have HQ := Lib.hid (findIx_not p (all_nth HJ.out))
      go_wp2
      go_ret
      exact ⟨ret_int (by rw [HQ.out]), hb⟩

set_option maxHeartbeats 400000 in
theorem ContainsFunc_Tr_c (w : World) (a : Option Addr) (c : Nat) (l : List Tr) (h : (tSl tTr).R w l [.slice a l.length c]) (fid : FuncId) (caps : Array Value) (p : Tr → Bool) (hf : Plainf Tryz.prog fid)
    (hp : ∀ k, k < l.length → ∀ w' a0 c0 a1 c1, Ext w w' → tTr.R w' (nth l k) [.slice a0 (nth l k).pre.length c0, .slice a1 (nth l k).post.length c1] →
      Calls Tryz.prog fid (#[.agg #[.slice a0 (nth l k).pre.length c0, .slice a1 (nth l k).post.length c1]] ++ caps) w' fun e w'' => e = .returned (.bool (p (nth l k))) ∧ Ext w' w'') :
    Calls Tryz.prog 101 #[.slice a l.length c, .func (.func fid) #[] caps] w fun e w' => e = .returned (.bool (l.any p)) ∧ Ext w w' := by
  have HP := Lib.hid hp
  have HQ := Lib.hid (findIx_any p l)
  clear hp
  go_enter Tryz.func101, Tryz.ntmps101
  go_wp2_with fail
  refine (IndexFunc_Tr_c _ _ _ _ h _ _ _ hf HP.out).mono ?_
  rintro e w1 ⟨rfl, hx⟩
  go_wp2
  go_ret
  exact ⟨ret_bool HQ.out, hx⟩

/-- Strictly rising numbers within bounds. -/
def risingFrom (lo hi : Int) : Option Int → List Int → Bool
  | _, [] => true
  | prev, x :: l => decide (lo ≤ x ∧ x ≤ hi) && (match prev with | none => true | some p => decide (p < x)) && risingFrom lo hi (some x) l
theorem risingFrom_cons (lo hi : Int) (prev : Option Int) (x : Int) (l : List Int) : risingFrom lo hi prev (x :: l) = (decide (lo ≤ x ∧ x ≤ hi) && (match prev with | none => true | some p => decide (p < x)) && risingFrom lo hi (some x) l) := by cases prev <;> rfl
def prevOf (l : List Int) (k : Nat) : Option Int := if k = 0 then none else some (nth l (k - 1))
def risingL (lo hi : Int) (l : List Int) : Bool := risingFrom lo hi none l
theorem risingL_out (lo hi : Int) (l : List Int) {k : Nat} (h : k < l.length) (h1 : ¬ (lo ≤ nth l k ∧ nth l k ≤ hi)) : risingFrom lo hi (prevOf l k) (l.drop k) = false := by
  rw [drop_nth h, risingFrom_cons]; simp [h1]
theorem risingL_in0 (lo hi : Int) (l : List Int) {k : Nat} (h : k < l.length) (hk : k = 0) (h1 : lo ≤ nth l k ∧ nth l k ≤ hi) : risingFrom lo hi (prevOf l k) (l.drop k) = risingFrom lo hi (prevOf l (k + 1)) (l.drop (k + 1)) := by
  subst hk; rw [drop_nth h, risingFrom_cons]; simp [h1, prevOf]
theorem risingL_in (lo hi : Int) (l : List Int) {k : Nat} (h : k < l.length) (hk : 0 < k) (h1 : lo ≤ nth l k ∧ nth l k ≤ hi) (h2 : nth l (k - 1) < nth l k) : risingFrom lo hi (prevOf l k) (l.drop k) = risingFrom lo hi (prevOf l (k + 1)) (l.drop (k + 1)) := by
  rw [drop_nth h, risingFrom_cons]; simp [h1, prevOf, show k ≠ 0 by omega, h2]
theorem risingL_no (lo hi : Int) (l : List Int) {k : Nat} (h : k < l.length) (hk : 0 < k) (h2 : ¬ nth l (k - 1) < nth l k) : risingFrom lo hi (prevOf l k) (l.drop k) = false := by
  rw [drop_nth h, risingFrom_cons]; simp [prevOf, show k ≠ 0 by omega, h2]

set_option maxHeartbeats 400000 in
theorem l1Rising_c (w : World) (a : Option Addr) (c : Nat) (l : List Int) (lo hi : Int) (h : (tSl tInt).R w l [.slice a l.length c]) :
    Calls Tryz.prog 76 #[.slice a l.length c, .int .i64 lo, .int .i64 hi] w fun e w' => e = .returned (.bool (risingL lo hi l)) ∧ Ext w w' := by
  have hn := R_len h
  obtain ⟨_, _, _, _, hs⟩ := R_sl.1 h
  clear h
  go_enter Tryz.func76, Tryz.ntmps76
  go_wp2
  go_loopw [11] (fun i wr => ∃ k : Nat, k ≤ l.length ∧ i = .int .i64 k ∧ risingL lo hi l = risingFrom lo hi (prevOf l k) (l.drop k) ∧ Ext w wr) (fun i _ => l.length - (intOf i).toNat)
  case atStart => exact ⟨0, Nat.zero_le _, rfl, rfl, Ext.refl _⟩
  case round =>
    obtain ⟨k, hk, rfl, hr, hb⟩ := hrel
    have HR := Lib.hid hr
    clear hr
    by_cases hlt : k < l.length
    · obtain ⟨b, o, rfl, hbs, hel⟩ := hs.get (by omega)
      have hc := (at_int ((hel k hlt).ext hb hbs)).1
      have hc1 := (at_int ((hel (k - 1) (by omega)).ext hb hbs)).1
      simp only [tInt, Nat.mul_one] at hc hc1
      clear hel
      by_cases h1 : lo ≤ nth l k ∧ nth l k ≤ hi
      · have HD := Lib.hid (show decide (lo ≤ nth l k ∧ nth l k ≤ hi) = true by simp [h1])
        have H1 := Lib.hid h1
        clear h1
        rcases Nat.eq_zero_or_pos k with hk0 | hk0
        · have HQ := Lib.hid (risingL_in0 lo hi l hlt hk0 H1.out)
          have hp0 : decide (0 < (k : Int)) = false := by simp; omega
          have hk1 : k < 1 := by omega
          clear hk0
          go_wp2_with fail
          refine (l1In_c _ _ _ _).mono ?_
          rintro e w2 ⟨rfl, hx⟩
          rw [HD.out]
          go_wp2
          go_roundw
          case rel => exact ⟨k + 1, by omega, by go_num, by rw [HR.out, HQ.out], hb.trans hx⟩
          case measure => simp [intOf]; omega
        · have hp0 : decide (0 < (k : Int)) = true := by simp; omega
          by_cases h2 : nth l (k - 1) < nth l k
          · have HQ := Lib.hid (risingL_in lo hi l hlt hk0 H1.out h2)
            have h3 : decide (nth l k ≤ nth l (k - 1)) = false := by simp; omega
            go_wp2_with fail
            refine (l1In_c _ _ _ _).mono ?_
            rintro e w2 ⟨rfl, hx⟩
            rw [HD.out]
            have hd1 : w2.cell? ⟨b, o + (k - 1), none⟩ = some (.int .i64 (nth l (k - 1))) := by rw [hx.cell (lt_of_cell hc1)]; exact hc1
            go_wp2
            go_roundw
            case rel => exact ⟨k + 1, by omega, by go_num, by rw [HR.out, HQ.out], hb.trans hx⟩
            case measure => simp [intOf]; omega
          · have HQ := Lib.hid (risingL_no lo hi l hlt hk0 h2)
            have h3 : decide (nth l k ≤ nth l (k - 1)) = true := by simp; omega
            go_wp2_with fail
            refine (l1In_c _ _ _ _).mono ?_
            rintro e w2 ⟨rfl, hx⟩
            rw [HD.out]
            have hd1 : w2.cell? ⟨b, o + (k - 1), none⟩ = some (.int .i64 (nth l (k - 1))) := by rw [hx.cell (lt_of_cell hc1)]; exact hc1
            go_wp2
            go_ret
            exact ⟨ret_bool (by rw [HR.out, HQ.out]), hb.trans hx⟩
      · have HD := Lib.hid (show decide (lo ≤ nth l k ∧ nth l k ≤ hi) = false by simp [h1])
        have HQ := Lib.hid (risingL_out lo hi l hlt h1)
        clear h1
        go_wp2_with fail
        refine (l1In_c _ _ _ _).mono ?_
        rintro e w2 ⟨rfl, hx⟩
        rw [HD.out]
        go_wp2
        go_ret
        exact ⟨ret_bool (by rw [HR.out, HQ.out]), hb.trans hx⟩
    · obtain rfl : k = l.length := by omega
      go_wp2
      go_ret
      exact ⟨ret_bool (by rw [HR.out, drop_len _ (Nat.le_refl _)]; cases prevOf l l.length <;> rfl), hb⟩

set_option maxHeartbeats 400000 in
theorem isIncreasing_c (w : World) (a : Option Addr) (c : Nat) (l : List Int) (n : Int) (h : (tSl tInt).R w l [.slice a l.length c]) (hn1 : -9223372036854775808 < n) (hn2 : n ≤ 9223372036854775807) :
    Calls Tryz.prog 103 #[.slice a l.length c, .int .i64 n] w fun e w' => e = .returned (.bool (risingL 0 (n - 1) l)) ∧ Ext w w' := by
  have hn := R_len h
  obtain ⟨_, _, _, _, hs⟩ := R_sl.1 h
  clear h
  go_enter Tryz.func103, Tryz.ntmps103
  go_wp2
  go_loopw [9] (fun i wr => ∃ k : Nat, k ≤ l.length ∧ i = .int .i64 k ∧ risingL 0 (n - 1) l = risingFrom 0 (n - 1) (prevOf l k) (l.drop k) ∧ Ext w wr) (fun i _ => l.length - (intOf i).toNat)
  case atStart => exact ⟨0, Nat.zero_le _, rfl, rfl, Ext.refl _⟩
  case round =>
    obtain ⟨k, hk, rfl, hr, hb⟩ := hrel
    have HR := Lib.hid hr
    clear hr
    by_cases hlt : k < l.length
    · obtain ⟨b, o, rfl, hbs, hel⟩ := hs.get (by omega)
      have hc := (at_int ((hel k hlt).ext hb hbs)).1
      have hc1 := (at_int ((hel (k - 1) (by omega)).ext hb hbs)).1
      simp only [tInt, Nat.mul_one] at hc hc1
      clear hel
      by_cases h1 : 0 ≤ nth l k ∧ nth l k ≤ (n - 1)
      · have HD := Lib.hid (show decide (0 ≤ nth l k ∧ nth l k ≤ (n - 1)) = true by simp [h1])
        have H1 := Lib.hid h1
        clear h1
        rcases Nat.eq_zero_or_pos k with hk0 | hk0
        · have HQ := Lib.hid (risingL_in0 0 (n - 1) l hlt hk0 H1.out)
          have hp0 : decide (0 < (k : Int)) = false := by simp; omega
          have hk1 : k < 1 := by omega
          clear hk0
          go_wp2_with fail
          refine (within_c _ _ _ _).mono ?_
          rintro e w2 ⟨rfl, hx⟩
          rw [HD.out]
          go_wp2
          go_roundw
          case rel => exact ⟨k + 1, by omega, by go_num, by rw [HR.out, HQ.out], hb.trans hx⟩
          case measure => simp [intOf]; omega
        · have hp0 : decide (0 < (k : Int)) = true := by simp; omega
          by_cases h2 : nth l (k - 1) < nth l k
          · have HQ := Lib.hid (risingL_in 0 (n - 1) l hlt hk0 H1.out h2)
            have h3 : decide (nth l k ≤ nth l (k - 1)) = false := by simp; omega
            go_wp2_with fail
            refine (within_c _ _ _ _).mono ?_
            rintro e w2 ⟨rfl, hx⟩
            rw [HD.out]
            have hd1 : w2.cell? ⟨b, o + (k - 1), none⟩ = some (.int .i64 (nth l (k - 1))) := by rw [hx.cell (lt_of_cell hc1)]; exact hc1
            go_wp2
            go_roundw
            case rel => exact ⟨k + 1, by omega, by go_num, by rw [HR.out, HQ.out], hb.trans hx⟩
            case measure => simp [intOf]; omega
          · have HQ := Lib.hid (risingL_no 0 (n - 1) l hlt hk0 h2)
            have h3 : decide (nth l k ≤ nth l (k - 1)) = true := by simp; omega
            go_wp2_with fail
            refine (within_c _ _ _ _).mono ?_
            rintro e w2 ⟨rfl, hx⟩
            rw [HD.out]
            have hd1 : w2.cell? ⟨b, o + (k - 1), none⟩ = some (.int .i64 (nth l (k - 1))) := by rw [hx.cell (lt_of_cell hc1)]; exact hc1
            go_wp2
            go_ret
            exact ⟨ret_bool (by rw [HR.out, HQ.out]), hb.trans hx⟩
      · have HD := Lib.hid (show decide (0 ≤ nth l k ∧ nth l k ≤ (n - 1)) = false by simp [h1])
        have HQ := Lib.hid (risingL_out 0 (n - 1) l hlt h1)
        clear h1
        go_wp2_with fail
        refine (within_c _ _ _ _).mono ?_
        rintro e w2 ⟨rfl, hx⟩
        rw [HD.out]
        go_wp2
        go_ret
        exact ⟨ret_bool (by rw [HR.out, HQ.out]), hb.trans hx⟩
    · obtain rfl : k = l.length := by omega
      go_wp2
      go_ret
      exact ⟨ret_bool (by rw [HR.out, drop_len _ (Nat.le_refl _)]; cases prevOf l l.length <;> rfl), hb⟩
end Go.Proofs.YtcpjhpjlcgcigaaGreatDoor
namespace Go.Proofs.YtcpjhpjlcgcigaaGreatDoor
open Go.ChangeShapes Go.WideShapes Go.ChangeAt Go.RowKit

theorem l1Set2_c (w : World) (a : Option Addr) (c : Nat) (l : List Int) (m : Int) (h : (tSl tInt).R w l [.slice a l.length c]) :
    Calls Tryz.prog 57 #[.slice a l.length c, .int .i64 m] w fun e w' => e = .returned (.bool (risingL 0 m l)) ∧ Ext w w' := by
  go_enter Tryz.func57, Tryz.ntmps57
  go_wp2_with fail
  refine (l1Rising_c _ _ _ _ _ _ h).mono ?_
  rintro e w1 ⟨rfl, hx⟩
  go_wp2
  go_ret
  exact ⟨rfl, hx⟩

theorem cell_box (w : World) (cs : Array Value) (t : TypeId) (i : Nat) : (w.alloc (.cells cs t)).cell? ⟨w.heap.size, i, none⟩ = cs[i]? := by simp

def badTr (pl : Int) (x : Tr) : Bool := decide (x.pre.length = 0) || !risingL 0 (pl - 1) x.pre || !risingL 0 (pl - 1) x.post
def goodNet (n : NetD) : Bool := decide (1 ≤ n.places ∧ n.places ≤ 30) && decide (n.trs.length ≤ 24) && !n.trs.any (badTr n.places)

set_option maxHeartbeats 400000 in
theorem IsValidNet1_c (w : World) (a0 : Option Addr) (c0 : Nat) (a1 : Option Addr) (c1 : Nat) (x : Tr) (b : Nat) (pl : Int) (hc : w.cell? ⟨b, 0, none⟩ = some (.int .i64 pl)) (h1 : 1 ≤ pl) (h2 : pl ≤ 30)
    (h : tTr.R w x [.slice a0 x.pre.length c0, .slice a1 x.post.length c1]) :
    Calls Tryz.prog 102 #[.agg #[.slice a0 x.pre.length c0, .slice a1 x.post.length c1], .pointer (some ⟨b, 0, none⟩)] w fun e w' => e = .returned (.bool (badTr pl x)) ∧ Ext w w' := by
  obtain ⟨hp, hq⟩ := R_Tr.1 h
  have HP := Lib.hid hp
  have HQ := Lib.hid hq
  have hb := lt_of_cell hc
  have hn := R_len hp
  clear h hp hq
  have HB : Hid (badTr pl x = (decide (x.pre.length = 0) || !risingL 0 (pl - 1) x.pre || !risingL 0 (pl - 1) x.post)) := Lib.hid rfl
  have hE0 : Ext w (w.alloc (.cells #[.slice a0 x.pre.length c0, .slice a1 x.post.length c1] 52)) := (Ext.refl w).alloc _
  by_cases he : x.pre.length = 0
  · have HE := Lib.hid he
    have hz : ((x.pre.length : Int) == 0) = true := by rw [beq_iff_eq]; omega
    clear he
    go_enter Tryz.func102, Tryz.ntmps102
    go_wp2
    go_ret
    exact ⟨ret_bool (by rw [HB.out]; simp [HE.out]), hE0⟩
  · have hz : ((x.pre.length : Int) == 0) = false := by rw [beq_eq_false_iff_ne]; omega
    have HE := Lib.hid he
    clear he
    go_enter Tryz.func102, Tryz.ntmps102
    go_wp2_with fail
    refine (isIncreasing_c _ _ _ _ _ (HP.out.ext hE0) (by omega) (by omega)).mono ?_
    rintro e w1 ⟨rfl, hx⟩
    obtain ⟨hk, hf⟩ := hx.cells
    simp only [World.size_alloc] at hk hf
    cases hr : risingL 0 (pl - 1) x.pre
    · have HR := Lib.hid hr
      clear hr
      go_wp2
      go_ret
      exact ⟨ret_bool (by rw [HB.out, HR.out]; simp), hE0.trans hx⟩
    · have HR := Lib.hid hr
      clear hr
      have hb1 : b < w.heap.size + 1 := by omega
      go_wp2_with fail
      refine (isIncreasing_c _ _ _ _ _ (HQ.out.ext (hE0.trans hx)) (by omega) (by omega)).mono ?_
      rintro e w2 ⟨rfl, hx2⟩
      go_wp2
      go_ret
      exact ⟨ret_bool (by rw [HB.out, HR.out]; simp [HE.out]), (hE0.trans hx).trans hx2⟩

theorem plain_IsValidNet1 : Plainf Tryz.prog 102 := plainf_of Tryz.func102 (by kernel_rfl) (by kernel_rfl)

set_option maxHeartbeats 400000 in
theorem IsValidNet_c (w : World) (a : Option Addr) (c : Nat) (x : NetD) (h : tNetD.R w x [.int .i64 x.places, .slice a x.trs.length c]) :
    Calls Tryz.prog 87 #[.agg #[.int .i64 x.places, .slice a x.trs.length c]] w fun e w' => e = .returned (.bool (goodNet x)) ∧ Ext w w' := by
  obtain ⟨hp, hq⟩ := R_NetD.1 h
  have HQ := Lib.hid hq
  have hn := R_len hq
  clear h hp hq
  have HB : Hid (goodNet x = (decide (1 ≤ x.places ∧ x.places ≤ 30) && decide (x.trs.length ≤ 24) && !x.trs.any (badTr x.places))) := Lib.hid rfl
  have hE0 : Ext w (w.alloc (.cells #[.int .i64 x.places, .slice a x.trs.length c] 24)) := (Ext.refl w).alloc _
  by_cases h1 : 1 ≤ x.places ∧ x.places ≤ 30
  · have HD := Lib.hid (show decide (1 ≤ x.places ∧ x.places ≤ 30) = true by simp [h1])
    obtain ⟨h11, h12⟩ := h1
    by_cases h2 : x.trs.length ≤ 24
    · have HE := Lib.hid (show decide (x.trs.length ≤ 24) = true by simp [h2])
      go_enter Tryz.func87, Tryz.ntmps87
      go_wp2_with fail
      refine (within_c _ _ _ _).mono ?_
      rintro e w1 ⟨rfl, hx⟩
      rw [HD.out]
      obtain ⟨hk, hf⟩ := hx.cells
      simp only [World.size_alloc] at hk hf
      have hcb : w1.cell? ⟨w.heap.size, 0, none⟩ = some (.int .i64 x.places) := by rw [hk _ _ (by omega)]; exact cell_box _ _ _ _
      go_wp2_with fail
      refine (ContainsFunc_Tr_c w1 a c x.trs (HQ.out.ext (hE0.trans hx)) 102 #[.pointer (some ⟨w.heap.size, 0, none⟩)] (badTr x.places) plain_IsValidNet1 ?_).mono ?_
      · intro k hk w' a0 c0 a1 c1 hw' hR
        have := IsValidNet1_c w' a0 c0 a1 c1 (nth x.trs k) w.heap.size x.places (by rw [hw'.cell (lt_of_cell hcb)]; exact hcb) h11 h12 hR
        simpa using this
      rintro e w2 ⟨rfl, hx2⟩
      go_wp2
      go_ret
      exact ⟨ret_bool (by rw [HB.out, HD.out, HE.out]; simp), (hE0.trans hx).trans hx2⟩
    · have HE := Lib.hid (show decide (x.trs.length ≤ 24) = false by simp; omega)
      go_enter Tryz.func87, Tryz.ntmps87
      go_wp2_with fail
      refine (within_c _ _ _ _).mono ?_
      rintro e w1 ⟨rfl, hx⟩
      rw [HD.out]
      obtain ⟨hk, hf⟩ := hx.cells
      simp only [World.size_alloc] at hk hf
      go_wp2
      go_ret
      exact ⟨ret_bool (by rw [HB.out, HE.out]; simp), hE0.trans hx⟩
  · have HD := Lib.hid (show decide (1 ≤ x.places ∧ x.places ≤ 30) = false by simp only [decide_eq_false_iff_not]; exact h1)
    clear h1
    go_enter Tryz.func87, Tryz.ntmps87
    go_wp2_with fail
    refine (within_c _ _ _ _).mono ?_
    rintro e w1 ⟨rfl, hx⟩
    rw [HD.out]
    go_wp2
    go_ret
    exact ⟨ret_bool (by rw [HB.out, HD.out]; simp), hE0.trans hx⟩
end Go.Proofs.YtcpjhpjlcgcigaaGreatDoor
namespace Go.Proofs.YtcpjhpjlcgcigaaGreatDoor
open Go.ChangeShapes Go.WideShapes Go.ChangeAt Go.RowKit

theorem any_drop {α : Type} [Inhabited α] (p : α → Bool) {l : List α} {k : Nat} (h : k < l.length) : (l.drop k).any p = (p (nth l k) || (l.drop (k + 1)).any p) := by
  rw [drop_nth h, List.any_cons]

set_option maxHeartbeats 800000 in
theorem l1Good_c (w : World) (a : Option Addr) (c : Nat) (x : NetD) (h : tNetD.R w x [.int .i64 x.places, .slice a x.trs.length c]) :
    Calls Tryz.prog 31 #[.agg #[.int .i64 x.places, .slice a x.trs.length c]] w fun e w' => e = .returned (.bool (goodNet x)) ∧ Ext w w' := by
  obtain ⟨hp, hq⟩ := R_NetD.1 h
  have hn := R_len hq
  obtain ⟨_, _, _, _, hs⟩ := R_sl.1 hq
  clear h hp hq
  have HB : Hid (goodNet x = (decide (1 ≤ x.places ∧ x.places ≤ 30) && decide (x.trs.length ≤ 24) && !x.trs.any (badTr x.places))) := Lib.hid rfl
  have hE0 : Ext w (w.alloc (.cells #[.int .i64 x.places, .slice a x.trs.length c] 24)) := (Ext.refl w).alloc _
  have hcb := cell_box w #[.int .i64 x.places, .slice a x.trs.length c] 24 0
  by_cases h1 : 1 ≤ x.places ∧ x.places ≤ 30
  · have HD := Lib.hid (show decide (1 ≤ x.places ∧ x.places ≤ 30) = true by simp [h1])
    obtain ⟨h11, h12⟩ := h1
    go_enter Tryz.func31, Tryz.ntmps31
    go_wp2
    go_loopw [8] (fun i wr => ∃ k : Nat, k ≤ x.trs.length ∧ i = .int .i64 k ∧ x.trs.any (badTr x.places) = (x.trs.drop k).any (badTr x.places) ∧ Ext (w.alloc (.cells #[.int .i64 x.places, .slice a x.trs.length c] 24)) wr) (fun i _ => x.trs.length - (intOf i).toNat)
    case atStart => exact ⟨0, Nat.zero_le _, rfl, rfl, Ext.refl _⟩
    case round =>
      obtain ⟨k, hk, rfl, hr, hb⟩ := hrel
      have HR := Lib.hid hr
      clear hr
      have hcw : wr.cell? ⟨w.heap.size, 0, none⟩ = some (.int .i64 x.places) := by rw [hb.cell (by simp)]; exact hcb
      have hws : w.heap.size < wr.heap.size := by have := hb.size; simp only [World.size_alloc] at this; omega
      by_cases hlt : k < x.trs.length
      · obtain ⟨b, o, rfl, hbs, hel⟩ := hs.get (by omega)
        obtain ⟨a0, c0, a1, c1, hc0, hc1, hR⟩ := at_Tr ((hel k hlt).ext (hE0.trans hb) hbs)
        simp only [show tTr.n = 2 from rfl] at hc0 hc1
        obtain ⟨hR0, hR1⟩ := R_Tr.1 hR
        have H0 := Lib.hid hR0
        have H1 := Lib.hid hR1
        have hn0 := R_len hR0
        have HT : Hid (badTr x.places (nth x.trs k) = (decide ((nth x.trs k).pre.length = 0) || !risingL 0 (x.places - 1) (nth x.trs k).pre || !risingL 0 (x.places - 1) (nth x.trs k).post)) := Lib.hid rfl
        have HA := Lib.hid (any_drop (badTr x.places) hlt)
        clear hel hR hR0 hR1 hcb
        by_cases he : (nth x.trs k).pre.length = 0
        · have HE := Lib.hid he
          have hz : (((nth x.trs k).pre.length : Int) == 0) = true := by rw [beq_iff_eq]; omega
          clear he
          go_wp2
          go_ret
          exact ⟨ret_bool (by rw [HB.out, HR.out, HA.out, HT.out]; simp [HE.out]), (hE0.trans hb).alloc _⟩
        · have hz : (((nth x.trs k).pre.length : Int) == 0) = false := by rw [beq_eq_false_iff_ne]; omega
          have HE := Lib.hid he
          clear he
          go_wp2_with fail
          refine (l1Set2_c _ _ _ _ _ (H0.out.ext ((Ext.refl _).alloc _))).mono ?_
          rintro e w1 ⟨rfl, hx⟩
          obtain ⟨hk1, hf1⟩ := hx.cells
          simp only [World.size_alloc] at hk1 hf1
          have hws1 : w.heap.size < wr.heap.size + 1 := by omega
          have hE1 : Ext wr w1 := ((Ext.refl _).alloc _).trans hx
          generalize hr1 : risingL 0 (x.places - 1) (nth x.trs k).pre = r1
          cases r1
          all_goals have HR1 := Lib.hid hr1
          all_goals clear hr1
          · go_wp2
            go_ret
            exact ⟨ret_bool (by rw [HB.out, HR.out, HA.out, HT.out, HR1.out]; simp), hE0.trans (hb.trans hE1)⟩
          · go_wp2_with fail
            refine (l1Set2_c _ _ _ _ _ (H1.out.ext hE1)).mono ?_
            rintro e w2 ⟨rfl, hx2⟩
            have hE2 := hE1.trans hx2
            generalize hr2 : risingL 0 (x.places - 1) (nth x.trs k).post = r2
            cases r2
            all_goals have HR2 := Lib.hid hr2
            all_goals clear hr2
            · go_wp2
              go_ret
              exact ⟨ret_bool (by rw [HB.out, HR.out, HA.out, HT.out, HR2.out]; simp), hE0.trans (hb.trans hE2)⟩
            · go_wp2
              go_roundw
              case rel => exact ⟨k + 1, by omega, by go_num, by rw [HR.out, HA.out, HT.out, HR1.out, HR2.out]; simp [HE.out], hb.trans hE2⟩
              case measure => simp [intOf]; omega
      · obtain rfl : k = x.trs.length := by omega
        go_wp2_with fail
        refine (l1In_c _ _ _ _).mono ?_
        rintro e w2 ⟨rfl, hx⟩
        rw [HD.out]
        obtain ⟨hk1, hf1⟩ := hx.cells
        have hcb1 : wr.cell? ⟨w.heap.size, 1, none⟩ = some (.slice a x.trs.length c) := by rw [hb.cell (by simp)]; exact cell_box _ _ _ _
        go_wp2
        go_ret
        exact ⟨ret_bool (by rw [HB.out, HD.out, HR.out, drop_len _ (Nat.le_refl _)]; simp; omega), (hE0.trans hb).trans hx⟩
  · have HD := Lib.hid (show decide (1 ≤ x.places ∧ x.places ≤ 30) = false by simp only [decide_eq_false_iff_not]; exact h1)
    clear h1
    go_enter Tryz.func31, Tryz.ntmps31
    go_wp2
    go_loopw [8] (fun i wr => ∃ k : Nat, k ≤ x.trs.length ∧ i = .int .i64 k ∧ Ext (w.alloc (.cells #[.int .i64 x.places, .slice a x.trs.length c] 24)) wr) (fun i _ => x.trs.length - (intOf i).toNat)
    case atStart => exact ⟨0, Nat.zero_le _, rfl, Ext.refl _⟩
    case round =>
      obtain ⟨k, hk, rfl, hb⟩ := hrel
      have hcw : wr.cell? ⟨w.heap.size, 0, none⟩ = some (.int .i64 x.places) := by rw [hb.cell (by simp)]; exact hcb
      have hws : w.heap.size < wr.heap.size := by have := hb.size; simp only [World.size_alloc] at this; omega
      by_cases hlt : k < x.trs.length
      · obtain ⟨b, o, rfl, hbs, hel⟩ := hs.get (by omega)
        obtain ⟨a0, c0, a1, c1, hc0, hc1, hR⟩ := at_Tr ((hel k hlt).ext (hE0.trans hb) hbs)
        simp only [show tTr.n = 2 from rfl] at hc0 hc1
        obtain ⟨hR0, hR1⟩ := R_Tr.1 hR
        have H0 := Lib.hid hR0
        have H1 := Lib.hid hR1
        have hn0 := R_len hR0
        clear hel hR hR0 hR1 hcb
        by_cases he : (nth x.trs k).pre.length = 0
        · have hz : (((nth x.trs k).pre.length : Int) == 0) = true := by rw [beq_iff_eq]; omega
          clear he
          go_wp2
          go_ret
          exact ⟨ret_bool (by rw [HB.out, HD.out]; simp), (hE0.trans hb).alloc _⟩
        · have hz : (((nth x.trs k).pre.length : Int) == 0) = false := by rw [beq_eq_false_iff_ne]; omega
          clear he
          go_wp2_with fail
          refine (l1Set2_c _ _ _ _ _ (H0.out.ext ((Ext.refl _).alloc _))).mono ?_
          rintro e w1 ⟨rfl, hx⟩
          obtain ⟨hk1, hf1⟩ := hx.cells
          simp only [World.size_alloc] at hk1 hf1
          have hws1 : w.heap.size < wr.heap.size + 1 := by omega
          have hE1 : Ext wr w1 := ((Ext.refl _).alloc _).trans hx
          generalize hr1 : risingL 0 _ (nth x.trs k).pre = r1
          cases r1
          all_goals have HR1 := Lib.hid hr1
          all_goals clear hr1
          · go_wp2
            go_ret
            exact ⟨ret_bool (by rw [HB.out, HD.out]; simp), hE0.trans (hb.trans hE1)⟩
          · go_wp2_with fail
            refine (l1Set2_c _ _ _ _ _ (H1.out.ext hE1)).mono ?_
            rintro e w2 ⟨rfl, hx2⟩
            have hE2 := hE1.trans hx2
            generalize hr2 : risingL 0 _ (nth x.trs k).post = r2
            cases r2
            all_goals have HR2 := Lib.hid hr2
            all_goals clear hr2
            · go_wp2
              go_ret
              exact ⟨ret_bool (by rw [HB.out, HD.out]; simp), hE0.trans (hb.trans hE2)⟩
            · go_wp2
              go_roundw
              case rel => exact ⟨k + 1, by omega, by go_num, hb.trans hE2⟩
              case measure => simp [intOf]; omega
      · obtain rfl : k = x.trs.length := by omega
        go_wp2_with fail
        refine (l1In_c _ _ _ _).mono ?_
        rintro e w2 ⟨rfl, hx⟩
        rw [HD.out]
        go_wp2
        go_ret
        exact ⟨ret_bool (by rw [HB.out, HD.out]; simp), (hE0.trans hb).trans hx⟩

end Go.Proofs.YtcpjhpjlcgcigaaGreatDoor
