/- IsFreeChoice, the reference's and the program's: what they compute. -/
import Derived.Test.YtboimpalblicnaaFinds
import Derived.Test.YtboimpalblicnaaNetX
namespace Go.Proofs.Ytboimpalblicnaa
open Go.ChangeShapes Go.WideShapes Go.ChangeAt Go.RowKit

def meet (l r : List Int) : Bool := l.any fun x => decide (x ∈ r)
theorem meet_comm (l r : List Int) : meet l r = meet r l := by
  rw [Bool.eq_iff_iff]; simp only [meet, List.any_eq_true, decide_eq_true_eq]
  exact ⟨fun ⟨x, h1, h2⟩ => ⟨x, h2, h1⟩, fun ⟨x, h1, h2⟩ => ⟨x, h2, h1⟩⟩

set_option maxHeartbeats 800000 in
theorem l1Meet_c (w : World) (a : Option Addr) (c : Nat) (l : List Int) (h : (tSl tInt).R w l [.slice a l.length c]) (a' : Option Addr) (c' : Nat) (r : List Int) (h' : (tSl tInt).R w r [.slice a' r.length c']) :
    Calls Try.prog 92 #[.slice a l.length c, .slice a' r.length c'] w fun e w' => e = .returned (.bool (meet l r)) ∧ Ext w w' := by
  have hn := R_len h
  obtain ⟨_, _, _, _, hs⟩ := R_sl.1 h
  have HR := Lib.hid h'
  have HN := Lib.hid (R_len h')
  clear h h'
  go_enter Try.func92, Try.ntmps92
  go_wp2
  go_loopw [9] (fun i wr => ∃ k : Nat, k ≤ l.length ∧ i = .int .i64 k ∧ (∀ j, j < k → (fun x => decide (x ∈ r)) (nth l j) = false) ∧ Ext w wr) (fun i _ => l.length - (intOf i).toNat)
  case atStart => exact ⟨0, Nat.zero_le _, rfl, by omega, Ext.refl _⟩
  case round =>
    obtain ⟨k, hk, rfl, hj, hb⟩ := hrel
    have HJ := Lib.hid hj
    clear hj
    by_cases hlt : k < l.length
    · obtain ⟨b, o, rfl, hbs, hel⟩ := hs.get (by omega)
      obtain ⟨hc0, _⟩ := at_int ((hel k hlt).ext hb hbs)
      simp only [tInt, Nat.mul_one] at hc0
      clear hel
      go_wp2_with fail
      refine (l1Has_c _ _ _ _ (HR.out.ext hb) _).mono ?_
      rintro e w2 ⟨rfl, hx⟩
      have hb2 := hb.trans hx
      cases hq : decide (nth l k ∈ r)
      · have HQ := Lib.hid hq
        clear hq
        go_wp2
        go_roundw
        case rel => exact ⟨k + 1, by omega, by go_num, fun j hj => by by_cases e : j = k; (rw [e]; exact HQ.out); exact HJ.out j (by omega), hb2⟩
        case measure => simp [intOf]; omega
      · have HQ : Hid (meet l r = true) := Lib.hid (List.any_eq_true.2 ⟨_, nth_mem hlt, hq⟩)
        clear hq
        go_wp2
        go_ret
        exact ⟨ret_bool (by rw [HQ.out]), hb2⟩
    · obtain rfl : k = l.length := by omega
      have HQ : Hid (meet l r = false) := Lib.hid (List.any_eq_false.2 (fun x hx => by have := all_nth (q := fun y => (fun x => decide (x ∈ r)) y = false) HJ.out x hx; simp at this ⊢; exact this))
      go_wp2
      go_ret
      exact ⟨ret_bool (by rw [HQ.out]), hb⟩

set_option maxHeartbeats 400000 in
theorem share1_c (w : World) (b : Nat) (n : Int) (a : Option Addr) (c : Nat) (r : List Int) (hc : w.cell? ⟨b, 0, none⟩ = some (.slice a r.length c)) (h : (tSl tInt).R w r [.slice a r.length c]) :
    Calls Try.prog 174 #[.int .i64 n, .pointer (some ⟨b, 0, none⟩)] w fun e w' => e = .returned (.bool (decide (n ∈ r))) ∧ Ext w w' := by
  have H := Lib.hid h
  clear h
  go_enter Try.func174, Try.ntmps174
  go_wp2_with fail
  refine (Contains_Int_c _ _ _ _ H.out _).mono ?_
  rintro e w2 ⟨rfl, hx⟩
  go_wp2
  go_ret
  exact ⟨rfl, hx⟩

theorem share_plain : Plainf Try.prog 174 := plainf_of Try.func174 (by kernel_rfl) (by kernel_rfl)

set_option maxHeartbeats 400000 in
theorem share_c (w : World) (a : Option Addr) (c : Nat) (l : List Int) (h : (tSl tInt).R w l [.slice a l.length c]) (a' : Option Addr) (c' : Nat) (r : List Int) (h' : (tSl tInt).R w r [.slice a' r.length c']) :
    Calls Try.prog 97 #[.slice a l.length c, .slice a' r.length c'] w fun e w' => e = .returned (.bool (meet l r)) ∧ Ext w w' := by
  have H := Lib.hid h
  have H' := Lib.hid h'
  clear h h'
  go_enter Try.func97, Try.ntmps97
  go_wp2_with fail
  refine (ContainsFunc_Int_c _ _ _ _ (H.out.ext ((Ext.refl _).alloc _)) _ _ (fun n => decide (n ∈ r)) share_plain ?_).mono ?_
  · intro k hk w' hx _
    exact share1_c _ _ _ a' c' r (by rw [hx.cell (by simp)]; exact World.cell?_alloc_new _ _ _ _) (H'.out.ext (((Ext.refl _).alloc _).trans hx))
  rintro e w2 ⟨rfl, hx⟩
  go_wp2
  go_ret
  exact ⟨rfl, ((Ext.refl _).alloc _).trans hx⟩

def freeP (t u : Tr) : Bool := decide (t.pre = u.pre) || !meet t.pre u.pre
theorem freeP_comm (t u : Tr) : freeP t u = freeP u t := by
  simp only [freeP, meet_comm t.pre u.pre]; congr 1; rw [decide_eq_decide]; exact eq_comm
theorem freeP_self (t : Tr) : freeP t t = true := by simp [freeP]
def freeN (n : NetD) : Bool := n.trs.all fun t => n.trs.all fun u => freeP t u
theorem freeN_true {n : NetD} (h : ∀ j, j < n.trs.length → ∀ m, m < n.trs.length → freeP (nth n.trs j) (nth n.trs m) = true) : freeN n = true := by
  simp only [freeN, List.all_eq_true]
  exact all_nth (q := fun t => ∀ u ∈ n.trs, freeP t u = true) (fun j hj => all_nth (q := fun u => freeP (nth n.trs j) u = true) (h j hj))
theorem freeN_half {n : NetD} (h : ∀ j, j < n.trs.length → ∀ m, m < j → freeP (nth n.trs j) (nth n.trs m) = true) : freeN n = true := by
  refine freeN_true (fun j hj m hm => ?_)
  rcases Nat.lt_trichotomy m j with h1 | h1 | h1
  · exact h j hj m h1
  · subst h1; exact freeP_self _
  · rw [freeP_comm]; exact h m hm j h1
theorem freeN_false {n : NetD} {j m : Nat} (hj : j < n.trs.length) (hm : m < n.trs.length) (h : freeP (nth n.trs j) (nth n.trs m) = false) : freeN n = false := by
  rw [Bool.eq_false_iff]; intro e
  simp only [freeN, List.all_eq_true] at e
  have := e _ (nth_mem hj) _ (nth_mem hm)
  rw [h] at this; exact Bool.noConfusion this

set_option maxHeartbeats 1600000 in
theorem specIsFreeChoice_c (w : World) (a : Option Addr) (c : Nat) (x : NetD) (h : tNetD.R w x [.int .i64 x.places, .slice a x.trs.length c]) :
    Calls Try.prog 32 #[.agg #[.int .i64 x.places, .slice a x.trs.length c]] w fun e w' => e = .returned (.tuple #[.bool (goodNet x && freeN x), .bool (goodNet x)]) ∧ Ext w w' := by
  obtain ⟨hp, hq⟩ := R_NetD.1 h
  have hn := R_len hq
  obtain ⟨_, _, _, _, hs⟩ := R_sl.1 hq
  have H := Lib.hid h
  clear h hp hq
  go_enter Try.func32, Try.ntmps32
  go_wp2_with fail
  refine (l1Good_c _ _ _ _ (H.out.ext ((Ext.refl _).alloc _))).mono ?_
  rintro e w1 ⟨rfl, hx⟩
  have hE1 : Ext w w1 := ((Ext.refl _).alloc _).trans hx
  have hcb : w1.cell? ⟨w.heap.size, 1, none⟩ = some (.slice a x.trs.length c) := by rw [hx.cell (by simp)]; exact World.cell?_alloc_new _ _ _ _
  cases hg : goodNet x
  all_goals have HG := Lib.hid hg
  all_goals clear hg
  · skip
    go_wp2
    go_ret2
    exact ⟨ret_bool_bool (by rw [HG.out]; rfl) HG.out.symm, hE1⟩
  · clear hx
    go_wp2
    go_loopw [14] (fun i wr => ∃ k : Nat, k ≤ x.trs.length ∧ i = .int .i64 k ∧ (∀ j, j < k → ∀ m, m < x.trs.length → freeP (nth x.trs j) (nth x.trs m) = true) ∧ Ext w1 wr) (fun i _ => x.trs.length - (intOf i).toNat)
    case atStart => exact ⟨0, Nat.zero_le _, rfl, by omega, Ext.refl _⟩
    case round =>
      obtain ⟨k, hk, rfl, hj, hb⟩ := hrel
      obtain ⟨wo, rfl⟩ : ∃ wo, wo = wr := ⟨wr, rfl⟩
      have HJ := Lib.hid hj
      clear hj
      have hcw : wo.cell? ⟨w.heap.size, 1, none⟩ = some (.slice a x.trs.length c) := by rw [hb.cell (lt_of_cell hcb)]; exact hcb
      have hws : w.heap.size < wo.heap.size := lt_of_cell hcw
      by_cases hlt : k < x.trs.length
      · obtain ⟨b, o, rfl, hbs, hel⟩ := hs.get (by omega)
        have HEl := Lib.hid hel
        obtain ⟨a0, c0, a1, c1, hc0, hc1, hR⟩ := at_Tr ((hel k hlt).ext (hE1.trans hb) hbs)
        simp only [show tTr.n = 2 from rfl] at hc0 hc1
        obtain ⟨hR0, hR1⟩ := R_Tr.1 hR
        have H0 := Lib.hid hR0
        clear hel hR hR0 hR1
        go_wp2
        go_loopw [21] (fun i wr => ∃ m : Nat, m ≤ x.trs.length ∧ i = .int .i64 m ∧ (∀ j, j < m → freeP (nth x.trs k) (nth x.trs j) = true) ∧ Ext (wo.alloc (.cells #[.slice a0 (nth x.trs k).pre.length c0, .slice a1 (nth x.trs k).post.length c1] 132)) wr) (fun i _ => x.trs.length - (intOf i).toNat)
        case atStart => exact ⟨0, Nat.zero_le _, rfl, by omega, Ext.refl _⟩
        case round =>
          obtain ⟨m, hm, rfl, hjm, hbi⟩ := hrel
          have HM := Lib.hid hjm
          have HBI := Lib.hid hbi
          clear hjm
          have hwl := hbi.size
          simp only [World.size_alloc] at hwl
          have hct0 : wr.cell? ⟨wo.heap.size, 0, none⟩ = some (.slice a0 (nth x.trs k).pre.length c0) := by rw [hbi.cell (by simp)]; exact World.cell?_alloc_new _ _ _ _
          have hE2 : Ext w wr := (hE1.trans hb).trans (((Ext.refl _).alloc _).trans hbi)
          clear hcw
          by_cases hlm : m < x.trs.length
          · obtain ⟨b0, c2, b1, c3, hd0, hd1, hR⟩ := at_Tr ((HEl.out m hlm).ext hE2 hbs)
            simp only [show tTr.n = 2 from rfl] at hd0 hd1
            obtain ⟨hR0, hR1⟩ := R_Tr.1 hR
            have H1 := Lib.hid hR0
            have HE2 := Lib.hid hE2
            clear hR hR0 hR1 hc0 hc1 hbi
            have hlw : wo.heap.size < wr.heap.size := lt_of_cell hct0
            go_wp2_with fail
            refine (l1Same_c _ _ _ _ _ _ _ (H0.out.ext (((Ext.refl _).alloc _).trans (HBI.out.alloc _))) (H1.out.ext ((Ext.refl _).alloc _))).mono ?_
            rintro e w3 ⟨rfl, hx3⟩
            have hE3 : Ext wr w3 := ((Ext.refl _).alloc _).trans hx3
            have hct3 : w3.cell? ⟨wo.heap.size, 0, none⟩ = some (.slice a0 (nth x.trs k).pre.length c0) := by rw [hE3.cell hlw]; exact hct0
            have hcu3 : w3.cell? ⟨wr.heap.size, 0, none⟩ = some (.slice b0 (nth x.trs m).pre.length c2) := by rw [hx3.cell (by simp)]; exact World.cell?_alloc_new _ _ _ _
            have HP : Hid (freeP (nth x.trs k) (nth x.trs m) = (decide ((nth x.trs k).pre = (nth x.trs m).pre) || !meet (nth x.trs k).pre (nth x.trs m).pre)) := Lib.hid rfl
            clear hct0 hx3
            cases hq : decide ((nth x.trs k).pre = (nth x.trs m).pre)
            all_goals have HQ := Lib.hid hq
            all_goals clear hq
            · go_wp2_with fail
              refine (l1Meet_c _ _ _ _ (H0.out.ext (((Ext.refl _).alloc _).trans (HBI.out.trans hE3))) _ _ _ (H1.out.ext hE3)).mono ?_
              rintro e w4 ⟨rfl, hx4⟩
              have hE4 := hE3.trans hx4
              cases hq : meet (nth x.trs k).pre (nth x.trs m).pre
              all_goals have HQ2 := Lib.hid hq
              all_goals clear hq
              · go_wp2
                go_roundw
                case rel => exact ⟨m + 1, by omega, by go_num, fun j hj => by by_cases e : j = m; (rw [e, HP.out, HQ.out, HQ2.out]; rfl); exact HM.out j (by omega), HBI.out.trans hE4⟩
                case measure => simp [intOf]; omega
              · have HF := Lib.hid (freeN_false hlt hlm (by rw [HP.out, HQ.out, HQ2.out]; rfl))
                go_wp2
                go_ret2
                exact ⟨ret_bool_bool (by rw [HG.out, HF.out]; rfl) HG.out.symm, HE2.out.trans hE4⟩
            · go_wp2
              go_roundw
              case rel => exact ⟨m + 1, by omega, by go_num, fun j hj => by by_cases e : j = m; (rw [e, HP.out, HQ.out]; rfl); exact HM.out j (by omega), HBI.out.trans hE3⟩
              case measure => simp [intOf]; omega
          · obtain rfl : m = x.trs.length := by omega
            go_wp2
            go_roundw
            case rel => exact ⟨k + 1, by omega, by go_num, fun j hj => by by_cases e : j = k; (rw [e]; exact HM.out); exact HJ.out j (by omega), hb.trans (((Ext.refl _).alloc _).trans hbi)⟩
            case measure => simp [intOf]; omega
      · obtain rfl : k = x.trs.length := by omega
        have HF := Lib.hid (freeN_true HJ.out)
        go_wp2
        go_ret2
        exact ⟨ret_bool_bool (by rw [HG.out, HF.out]; rfl) HG.out.symm, hE1.trans hb⟩

set_option maxHeartbeats 1600000 in
theorem IsFreeChoice_c (w : World) (a : Option Addr) (c : Nat) (x : NetD) (h : tNetD.R w x [.int .i64 x.places, .slice a x.trs.length c]) :
    Calls Try.prog 33 #[.agg #[.int .i64 x.places, .slice a x.trs.length c]] w fun e w' => e = .returned (.tuple #[.bool (goodNet x && freeN x), .bool (goodNet x)]) ∧ Ext w w' := by
  obtain ⟨hp, hq⟩ := R_NetD.1 h
  have hn := R_len hq
  obtain ⟨hz1, hz2, hz3, hz4, hs⟩ := R_sl.1 hq
  have H := Lib.hid h
  clear h hp hq
  go_enter Try.func33, Try.ntmps33
  go_wp2_with fail
  refine (IsValidNet_c _ _ _ _ (H.out.ext ((Ext.refl _).alloc _))).mono ?_
  rintro e w1 ⟨rfl, hx⟩
  have hE1 : Ext w w1 := ((Ext.refl _).alloc _).trans hx
  have hcb : w1.cell? ⟨w.heap.size, 1, none⟩ = some (.slice a x.trs.length c) := by rw [hx.cell (by simp)]; exact World.cell?_alloc_new _ _ _ _
  cases hg : goodNet x
  all_goals have HG := Lib.hid hg
  all_goals clear hg
  · skip
    go_wp2
    go_ret2
    exact ⟨ret_bool_bool (by rw [HG.out]; rfl) HG.out.symm, hE1⟩
  · clear hx
    go_wp2
    go_loopw [14] (fun i wr => ∃ k : Nat, k ≤ x.trs.length ∧ i = .int .i64 k ∧ (∀ j, j < k → ∀ m, m < j → freeP (nth x.trs j) (nth x.trs m) = true) ∧ Ext w1 wr) (fun i _ => x.trs.length - (intOf i).toNat)
    case atStart => exact ⟨0, Nat.zero_le _, rfl, by omega, Ext.refl _⟩
    case round =>
      obtain ⟨k, hk, rfl, hj, hb⟩ := hrel
      obtain ⟨wo, rfl⟩ : ∃ wo, wo = wr := ⟨wr, rfl⟩
      have HJ := Lib.hid hj
      clear hj
      have hcw : wo.cell? ⟨w.heap.size, 1, none⟩ = some (.slice a x.trs.length c) := by rw [hb.cell (lt_of_cell hcb)]; exact hcb
      have hws : w.heap.size < wo.heap.size := lt_of_cell hcw
      by_cases hlt : k < x.trs.length
      · obtain ⟨b, o, rfl, hbs, hel⟩ := hs.get (by omega)
        have HEl := Lib.hid hel
        obtain ⟨a0, c0, a1, c1, hc0, hc1, hR⟩ := at_Tr ((hel k hlt).ext (hE1.trans hb) hbs)
        simp only [show tTr.n = 2 from rfl] at hc0 hc1
        obtain ⟨hR0, hR1⟩ := R_Tr.1 hR
        have H0 := Lib.hid hR0
        clear hel hR hR0 hR1
        go_wp2
        go_loopw [24] (fun i wi => ∃ m : Nat, m ≤ k ∧ i = .int .i64 m ∧ (∀ j, j < m → freeP (nth x.trs k) (nth x.trs j) = true) ∧ Ext (wo.alloc (.cells #[.slice a0 (nth x.trs k).pre.length c0, .slice a1 (nth x.trs k).post.length c1] 132)) wi) (fun i _ => k - (intOf i).toNat)
        case atStart => exact ⟨0, Nat.zero_le _, rfl, by omega, Ext.refl _⟩
        case round =>
          obtain ⟨m, hm, rfl, hjm, hbi⟩ := hrel
          have HM := Lib.hid hjm
          have HBI := Lib.hid hbi
          clear hjm
          have hwl := hbi.size
          simp only [World.size_alloc] at hwl
          have hct0 : wr.cell? ⟨wo.heap.size, 0, none⟩ = some (.slice a0 (nth x.trs k).pre.length c0) := by rw [hbi.cell (by simp)]; exact World.cell?_alloc_new _ _ _ _
          have hE2 : Ext w wr := (hE1.trans hb).trans (((Ext.refl _).alloc _).trans hbi)
          clear hcw
          by_cases hlm : m < k
          · obtain ⟨b0, c2, b1, c3, hd0, hd1, hR⟩ := at_Tr ((HEl.out m (by omega)).ext hE2 hbs)
            simp only [show tTr.n = 2 from rfl] at hd0 hd1
            obtain ⟨hR0, hR1⟩ := R_Tr.1 hR
            have H1 := Lib.hid hR0
            have HE2 := Lib.hid hE2
            clear hR hR0 hR1 hc0 hc1 hbi
            have hlw : wo.heap.size < wr.heap.size := lt_of_cell hct0
            go_wp2_with fail
            refine (share_c _ _ _ _ (H0.out.ext (((Ext.refl _).alloc _).trans (HBI.out.alloc _))) _ _ _ (H1.out.ext ((Ext.refl _).alloc _))).mono ?_
            rintro e w3 ⟨rfl, hx3⟩
            have hE3 : Ext wr w3 := ((Ext.refl _).alloc _).trans hx3
            have hct3 : w3.cell? ⟨wo.heap.size, 0, none⟩ = some (.slice a0 (nth x.trs k).pre.length c0) := by rw [hE3.cell hlw]; exact hct0
            have hcu3 : w3.cell? ⟨wr.heap.size, 0, none⟩ = some (.slice b0 (nth x.trs m).pre.length c2) := by rw [hx3.cell (by simp)]; exact World.cell?_alloc_new _ _ _ _
            have HP : Hid (freeP (nth x.trs k) (nth x.trs m) = (decide ((nth x.trs k).pre = (nth x.trs m).pre) || !meet (nth x.trs k).pre (nth x.trs m).pre)) := Lib.hid rfl
            clear hct0 hx3
            cases hq : meet (nth x.trs k).pre (nth x.trs m).pre
            all_goals have HQ := Lib.hid hq
            all_goals clear hq
            · go_wp2
              go_roundw
              case rel => exact ⟨m + 1, by omega, by go_num, fun j hj => by by_cases e : j = m; (rw [e, HP.out, HQ.out]; simp); exact HM.out j (by omega), HBI.out.trans hE3⟩
              case measure => simp [intOf]; omega
            · go_wp2_with fail
              refine (Equal_Int_c _ _ _ _ _ _ _ (H0.out.ext (((Ext.refl _).alloc _).trans (HBI.out.trans hE3))) (H1.out.ext hE3)).mono ?_
              rintro e w4 ⟨rfl, hx4⟩
              have hE4 := hE3.trans hx4
              cases hq : decide ((nth x.trs k).pre = (nth x.trs m).pre)
              all_goals have HQ2 := Lib.hid hq
              all_goals clear hq
              · have HF := Lib.hid (freeN_false hlt (show m < x.trs.length by omega) (by rw [HP.out, HQ.out, HQ2.out]; rfl))
                go_wp2
                go_ret2
                exact ⟨ret_bool_bool (by rw [HG.out, HF.out]; rfl) HG.out.symm, HE2.out.trans hE4⟩
              · go_wp2
                go_roundw
                case rel => exact ⟨m + 1, by omega, by go_num, fun j hj => by by_cases e : j = m; (rw [e, HP.out, HQ2.out]; rfl); exact HM.out j (by omega), HBI.out.trans hE4⟩
                case measure => simp [intOf]; omega
          · obtain rfl : m = k := by omega
            go_wp2
            go_roundw
            case rel => exact ⟨m + 1, by omega, by go_num, fun j hj => by by_cases e : j = m; (rw [e]; exact HM.out); exact HJ.out j (by omega), hb.trans (((Ext.refl _).alloc _).trans hbi)⟩
            case measure => simp [intOf]; omega
      · obtain rfl : k = x.trs.length := by omega
        have HF := Lib.hid (freeN_half HJ.out)
        go_wp2
        go_ret2
        exact ⟨ret_bool_bool (by rw [HG.out, HF.out]; rfl) HG.out.symm, hE1.trans hb⟩
end Go.Proofs.Ytboimpalblicnaa
