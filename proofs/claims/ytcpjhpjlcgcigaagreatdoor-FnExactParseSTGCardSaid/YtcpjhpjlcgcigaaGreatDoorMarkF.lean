/- The laws' helpers mark and held over slices whose elements are plain. -/
import Derived.Test.YtcpjhpjlcgcigaaGreatDoorMarkT
set_option linter.unusedSimpArgs false
set_option linter.unusedVariables false
namespace Go.Proofs.YtcpjhpjlcgcigaaGreatDoor
open Go.ChangeShapes Go.WideShapes Go.ChangeAt Go.RowKit
def fInt (_ : Nat) (n : Int) : Value := .int .i64 (n)

set_option maxHeartbeats 800000 in
theorem markIntS_c (w : World) (a : Option Addr) (c : Nat) (l : List Int) (bs : List Nat) (k0 : Int) (h : (tSl tInt).rep w l bs [.slice a l.length c]) (hu : ∀ k ∈ bs, Un w k) (hk0 : 0 ≤ k0) (hk1 : k0 ≤ 1099511627776) (hl : l.length ≤ 1048576) :
    Calls Tryz.prog 73 #[.slice a l.length c, .int .i64 k0] w fun e w' => e = .returned (.int .i64 (k0 + ((l.length * 1 : Nat) : Int))) ∧ MFlat 1 fInt w' a l.length k0 ∧ Turn bs w w' := by
  by_cases hn0 : l.length = 0
  · have HN := Lib.hid hn0
    have hn1 : l.length < 1 := by omega
    clear hn0
    go_enter Tryz.func73, Tryz.ntmps73
    go_wp2
    go_loopw [1, 5] (fun v i wr => v = .int .i64 k0 ∧ i = .int .i64 0 ∧ w = wr) (fun _ _ _ => 0)
    case atStart => exact ⟨rfl, rfl, rfl⟩
    case round =>
      obtain ⟨rfl, rfl, rfl⟩ := hrel
      go_wp2
      go_ret
      exact ⟨ret_int (by rw [HN.out]; simp), Or.inl HN.out, Turn.refl _ _⟩
  · obtain ⟨b, o, rfl, hbb, hblk⟩ := rep_blk h (by decide) (by omega) hu
    have hbw : b < w.heap.size := (hu b hbb).lt
    simp only [show tInt.n = 1 from rfl] at hblk
    clear h hu
    go_enter Tryz.func73, Tryz.ntmps73
    go_wp2
    go_loopw [1, 5] (fun v i wr => ∃ j : Nat, j ≤ l.length ∧ i = .int .i64 j ∧ v = .int .i64 (k0 + ((j * 1 : Nat) : Int)) ∧ BlkW wr b (o + l.length * 1) ∧ (∀ j', j' < j → ∀ i, i < 1 → wr.cell? ⟨b, o + j' * 1 + i, none⟩ = some (fInt i (k0 + ((j' * 1 + i : Nat) : Int)))) ∧ Turn bs w wr) (fun _ i _ => l.length - (intOf i).toNat)
    case atStart => exact ⟨0, Nat.zero_le _, rfl, by simp, hblk, by omega, Turn.refl _ _⟩
    case round =>
      obtain ⟨j, hj, rfl, rfl, hbk, hm, ht⟩ := hrel
      have HB := Lib.hid hbk
      have HM := Lib.hid hm
      have HT := Lib.hid ht
      clear hbk hm ht hblk
      by_cases hlt : j < l.length
      · skip
        obtain ⟨u0, hg0⟩ := (HB.out).cell (j := o + j) (by omega)
        have hz0 := (HB.out).frozen (o + j)
        have HS := Lib.hid (fun vs => BlkW.setCells vs (o + j) (HB.out))
        have HU := Lib.hid (fun vs => Turn.setCells hbb vs (o + j) (HT.out))
        have HC : Hid (∀ vs : List Value, vs.length = 1 → (∀ i, i < 1 → vs[i]? = some (fInt i (k0 + ((j * 1 + i : Nat) : Int)))) → ∀ j', j' < j + 1 → ∀ i, i < 1 → (setCells wr b (o + j) vs).cell? ⟨b, o + j' * 1 + i, none⟩ = some (fInt i (k0 + ((j' * 1 + i : Nat) : Int)))) := by
          refine Lib.hid (fun vs hvl hvs j' hj' i hi => ?_)
          by_cases e : j' = j
          · subst e
            have := cell_setCells_at vs wr (o + j' * 1) i (HB.out) (by rw [hvl]; omega) (by omega)
            simp only [Nat.mul_one] at this hvs ⊢
            rw [this]; exact hvs i hi
          · rw [cell_setCells_lt _ _ _ _ (by omega)]; exact HM.out j' (by omega) i hi
        go_wp2
        go_roundw
        case rel =>
          refine ⟨j + 1, by omega, by go_num, by go_num, HS.out [_], HC.out [_] rfl ?_, HU.out [_]⟩
          intro i hi
          match i, hi with
          | 0, _ => show some (Value.int .i64 _) = some (Value.int .i64 _); congr 2 <;> omega
        case measure => simp [intOf]; omega
      · obtain rfl : j = l.length := by omega
        go_wp2
        go_ret
        exact ⟨rfl, Or.inr ⟨b, o, rfl, Nat.lt_of_lt_of_le hbw HT.out.size, HM.out⟩, HT.out⟩

set_option maxHeartbeats 800000 in
theorem heldIntS_c (w : World) (a : Option Addr) (c n : Nat) (k0 : Int) (h : MFlat 1 fInt w a n k0) (hk0 : 0 ≤ k0) (hk1 : k0 ≤ 1099511627776) (hl : n ≤ 1048576) :
    Calls Tryz.prog 74 #[.slice a n c, .int .i64 k0] w fun e w' => e = .returned (.int .i64 (k0 + ((n * 1 : Nat) : Int))) ∧ Ext w w' := by
  have H := Lib.hid h
  clear h
  go_enter Tryz.func74, Tryz.ntmps74
  go_wp2
  go_loopw [1, 5] (fun v i wr => ∃ j : Nat, j ≤ n ∧ i = .int .i64 j ∧ v = .int .i64 (k0 + ((j * 1 : Nat) : Int)) ∧ Ext w wr) (fun _ i _ => n - (intOf i).toNat)
  case atStart => exact ⟨0, Nat.zero_le _, rfl, by simp, Ext.refl _⟩
  case round =>
    obtain ⟨j, hj, rfl, rfl, hx⟩ := hrel
    by_cases hlt : j < n
    · rcases H.out with hn | ⟨b, o, rfl, hb, hm⟩
      · omega
      have hc0 : wr.cell? ⟨b, o + j, none⟩ = some (.int .i64 (k0 + ((j * 1 : Nat) : Int))) := by
        rw [hx.cell hb]
        have := hm j hlt 0 (by decide)
        rw [show (k0 + ((j * 1 + 0 : Nat) : Int)) = k0 + ((j * 1 : Nat) : Int) by omega] at this
        simp only [Nat.mul_one, Nat.add_zero] at this ⊢
        exact this
      clear hm
      go_wp2
      go_roundw
      case rel => exact ⟨j + 1, by omega, by go_num, by go_num, hx⟩
      case measure => simp [intOf]; omega
    · obtain rfl : j = n := by omega
      go_wp2
      go_ret
      exact ⟨rfl, hx⟩
def fSig (i : Nat) (n : Int) : Value := match i with
  | 0 => .string (markStr (n))
  | _ => .int .i64 (n)

set_option maxHeartbeats 800000 in
theorem markSignalS_c (w : World) (a : Option Addr) (c : Nat) (l : List Sig) (bs : List Nat) (k0 : Int) (h : (tSl tSig).rep w l bs [.slice a l.length c]) (hu : ∀ k ∈ bs, Un w k) (hk0 : 0 ≤ k0) (hk1 : k0 ≤ 1099511627776) (hl : l.length ≤ 1048576) :
    Calls Tryz.prog 23 #[.slice a l.length c, .int .i64 k0] w fun e w' => e = .returned (.int .i64 (k0 + ((l.length * 2 : Nat) : Int))) ∧ MFlat 2 fSig w' a l.length k0 ∧ Turn bs w w' := by
  by_cases hn0 : l.length = 0
  · have HN := Lib.hid hn0
    have hn1 : l.length < 1 := by omega
    clear hn0
    go_enter Tryz.func23, Tryz.ntmps23
    go_wp2
    go_loopw [1, 5] (fun v i wr => v = .int .i64 k0 ∧ i = .int .i64 0 ∧ w = wr) (fun _ _ _ => 0)
    case atStart => exact ⟨rfl, rfl, rfl⟩
    case round =>
      obtain ⟨rfl, rfl, rfl⟩ := hrel
      go_wp2
      go_ret
      exact ⟨ret_int (by rw [HN.out]; simp), Or.inl HN.out, Turn.refl _ _⟩
  · obtain ⟨b, o, rfl, hbb, hblk⟩ := rep_blk h (by decide) (by omega) hu
    have hbw : b < w.heap.size := (hu b hbb).lt
    simp only [show tSig.n = 2 from rfl] at hblk
    clear h hu
    go_enter Tryz.func23, Tryz.ntmps23
    go_wp2
    go_loopw [1, 5] (fun v i wr => ∃ j : Nat, j ≤ l.length ∧ i = .int .i64 j ∧ v = .int .i64 (k0 + ((j * 2 : Nat) : Int)) ∧ BlkW wr b (o + l.length * 2) ∧ (∀ j', j' < j → ∀ i, i < 2 → wr.cell? ⟨b, o + j' * 2 + i, none⟩ = some (fSig i (k0 + ((j' * 2 + i : Nat) : Int)))) ∧ Turn bs w wr) (fun _ i _ => l.length - (intOf i).toNat)
    case atStart => exact ⟨0, Nat.zero_le _, rfl, by simp, hblk, by omega, Turn.refl _ _⟩
    case round =>
      obtain ⟨j, hj, rfl, rfl, hbk, hm, ht⟩ := hrel
      have HB := Lib.hid hbk
      have HM := Lib.hid hm
      have HT := Lib.hid ht
      clear hbk hm ht hblk
      by_cases hlt : j < l.length
      · skip
        go_wp2_with fail
        refine (markText_c _ _ (by omega) (by omega)).mono ?_
        rintro e w2 ⟨rfl, hx⟩
        have HB2 := Lib.hid (HB.out.ext hx)
        have HT2 := Lib.hid (HT.out.trans (Turn.of_ext hx))
        have HM2 := Lib.hid (fun j' hj' i hi => (hx.cell (lt_of_cell (HM.out j' hj' i hi))).trans (HM.out j' hj' i hi))
        obtain ⟨u0, hg0⟩ := (HB2.out).cell (j := o + j * 2) (by omega)
        have hz0 := (HB2.out).frozen (o + j * 2)
        obtain ⟨u1, hg1⟩ := (HB2.out).cell (j := o + j * 2 + 1) (by omega)
        have hz1 := (HB2.out).frozen (o + j * 2 + 1)
        have HS := Lib.hid (fun vs => BlkW.setCells vs (o + j * 2) (HB2.out))
        have HU := Lib.hid (fun vs => Turn.setCells hbb vs (o + j * 2) (HT2.out))
        have HC : Hid (∀ vs : List Value, vs.length = 2 → (∀ i, i < 2 → vs[i]? = some (fSig i (k0 + ((j * 2 + i : Nat) : Int)))) → ∀ j', j' < j + 1 → ∀ i, i < 2 → (setCells w2 b (o + j * 2) vs).cell? ⟨b, o + j' * 2 + i, none⟩ = some (fSig i (k0 + ((j' * 2 + i : Nat) : Int)))) := by
          refine Lib.hid (fun vs hvl hvs j' hj' i hi => ?_)
          by_cases e : j' = j
          · subst e
            have := cell_setCells_at vs w2 (o + j' * 2) i (HB2.out) (by rw [hvl]; omega) (by omega)
            rw [this]; exact hvs i hi
          · rw [cell_setCells_lt _ _ _ _ (by omega)]; exact HM2.out j' (by omega) i hi
        go_wp2
        go_roundw
        case rel =>
          refine ⟨j + 1, by omega, by go_num, by go_num, HS.out [_, _], HC.out [_, _] rfl ?_, HU.out [_, _]⟩
          intro i hi
          match i, hi with
          | 0, _ => show some (Value.string _) = some (Value.string _); congr 3 <;> omega
          | 1, _ => show some (Value.int .i64 _) = some (Value.int .i64 _); congr 2 <;> omega
        case measure => simp [intOf]; omega
      · obtain rfl : j = l.length := by omega
        go_wp2
        go_ret
        exact ⟨rfl, Or.inr ⟨b, o, rfl, Nat.lt_of_lt_of_le hbw HT.out.size, HM.out⟩, HT.out⟩
def fLab (i : Nat) (n : Int) : Value := match i with
  | 0 => .int .i64 (n)
  | _ => .bool ((n) % 3 == 0)

set_option maxHeartbeats 800000 in
theorem markLabelS_c (w : World) (a : Option Addr) (c : Nat) (l : List Lab) (bs : List Nat) (k0 : Int) (h : (tSl tLab).rep w l bs [.slice a l.length c]) (hu : ∀ k ∈ bs, Un w k) (hk0 : 0 ≤ k0) (hk1 : k0 ≤ 1099511627776) (hl : l.length ≤ 1048576) :
    Calls Tryz.prog 24 #[.slice a l.length c, .int .i64 k0] w fun e w' => e = .returned (.int .i64 (k0 + ((l.length * 2 : Nat) : Int))) ∧ MFlat 2 fLab w' a l.length k0 ∧ Turn bs w w' := by
  by_cases hn0 : l.length = 0
  · have HN := Lib.hid hn0
    have hn1 : l.length < 1 := by omega
    clear hn0
    go_enter Tryz.func24, Tryz.ntmps24
    go_wp2
    go_loopw [1, 5] (fun v i wr => v = .int .i64 k0 ∧ i = .int .i64 0 ∧ w = wr) (fun _ _ _ => 0)
    case atStart => exact ⟨rfl, rfl, rfl⟩
    case round =>
      obtain ⟨rfl, rfl, rfl⟩ := hrel
      go_wp2
      go_ret
      exact ⟨ret_int (by rw [HN.out]; simp), Or.inl HN.out, Turn.refl _ _⟩
  · obtain ⟨b, o, rfl, hbb, hblk⟩ := rep_blk h (by decide) (by omega) hu
    have hbw : b < w.heap.size := (hu b hbb).lt
    simp only [show tLab.n = 2 from rfl] at hblk
    clear h hu
    go_enter Tryz.func24, Tryz.ntmps24
    go_wp2
    go_loopw [1, 5] (fun v i wr => ∃ j : Nat, j ≤ l.length ∧ i = .int .i64 j ∧ v = .int .i64 (k0 + ((j * 2 : Nat) : Int)) ∧ BlkW wr b (o + l.length * 2) ∧ (∀ j', j' < j → ∀ i, i < 2 → wr.cell? ⟨b, o + j' * 2 + i, none⟩ = some (fLab i (k0 + ((j' * 2 + i : Nat) : Int)))) ∧ Turn bs w wr) (fun _ i _ => l.length - (intOf i).toNat)
    case atStart => exact ⟨0, Nat.zero_le _, rfl, by simp, hblk, by omega, Turn.refl _ _⟩
    case round =>
      obtain ⟨j, hj, rfl, rfl, hbk, hm, ht⟩ := hrel
      have HB := Lib.hid hbk
      have HM := Lib.hid hm
      have HT := Lib.hid ht
      clear hbk hm ht hblk
      by_cases hlt : j < l.length
      · skip
        obtain ⟨u0, hg0⟩ := (HB.out).cell (j := o + j * 2) (by omega)
        have hz0 := (HB.out).frozen (o + j * 2)
        obtain ⟨u1, hg1⟩ := (HB.out).cell (j := o + j * 2 + 1) (by omega)
        have hz1 := (HB.out).frozen (o + j * 2 + 1)
        have HS := Lib.hid (fun vs => BlkW.setCells vs (o + j * 2) (HB.out))
        have HU := Lib.hid (fun vs => Turn.setCells hbb vs (o + j * 2) (HT.out))
        have HC : Hid (∀ vs : List Value, vs.length = 2 → (∀ i, i < 2 → vs[i]? = some (fLab i (k0 + ((j * 2 + i : Nat) : Int)))) → ∀ j', j' < j + 1 → ∀ i, i < 2 → (setCells wr b (o + j * 2) vs).cell? ⟨b, o + j' * 2 + i, none⟩ = some (fLab i (k0 + ((j' * 2 + i : Nat) : Int)))) := by
          refine Lib.hid (fun vs hvl hvs j' hj' i hi => ?_)
          by_cases e : j' = j
          · subst e
            have := cell_setCells_at vs wr (o + j' * 2) i (HB.out) (by rw [hvl]; omega) (by omega)
            rw [this]; exact hvs i hi
          · rw [cell_setCells_lt _ _ _ _ (by omega)]; exact HM.out j' (by omega) i hi
        go_wp2
        go_roundw
        case rel =>
          refine ⟨j + 1, by omega, by go_num, by go_num, HS.out [_, _], HC.out [_, _] rfl ?_, HU.out [_, _]⟩
          intro i hi
          match i, hi with
          | 0, _ => show some (Value.int .i64 _) = some (Value.int .i64 _); congr 2 <;> omega
          | 1, _ => show some (Value.bool _) = some (Value.bool _); congr 2; first | rfl | (congr 2; omega)
        case measure => simp [intOf]; omega
      · obtain rfl : j = l.length := by omega
        go_wp2
        go_ret
        exact ⟨rfl, Or.inr ⟨b, o, rfl, Nat.lt_of_lt_of_le hbw HT.out.size, HM.out⟩, HT.out⟩

set_option maxHeartbeats 800000 in
theorem heldLabelS_c (w : World) (a : Option Addr) (c n : Nat) (k0 : Int) (h : MFlat 2 fLab w a n k0) (hk0 : 0 ≤ k0) (hk1 : k0 ≤ 1099511627776) (hl : n ≤ 1048576) :
    Calls Tryz.prog 27 #[.slice a n c, .int .i64 k0] w fun e w' => e = .returned (.int .i64 (k0 + ((n * 2 : Nat) : Int))) ∧ Ext w w' := by
  have H := Lib.hid h
  clear h
  go_enter Tryz.func27, Tryz.ntmps27
  go_wp2
  go_loopw [1, 5] (fun v i wr => ∃ j : Nat, j ≤ n ∧ i = .int .i64 j ∧ v = .int .i64 (k0 + ((j * 2 : Nat) : Int)) ∧ Ext w wr) (fun _ i _ => n - (intOf i).toNat)
  case atStart => exact ⟨0, Nat.zero_le _, rfl, by simp, Ext.refl _⟩
  case round =>
    obtain ⟨j, hj, rfl, rfl, hx⟩ := hrel
    by_cases hlt : j < n
    · rcases H.out with hn | ⟨b, o, rfl, hb, hm⟩
      · omega
      have hc0 : wr.cell? ⟨b, o + j * 2, none⟩ = some (.int .i64 (k0 + ((j * 2 : Nat) : Int))) := by
        rw [hx.cell hb]
        have := hm j hlt 0 (by decide)
        rw [show (k0 + ((j * 2 + 0 : Nat) : Int)) = k0 + ((j * 2 : Nat) : Int) by omega] at this
        exact this
      have hc1 : wr.cell? ⟨b, o + j * 2 + 1, none⟩ = some (.bool ((k0 + ((j * 2 : Nat) : Int) + 1) % 3 == 0)) := by
        rw [hx.cell hb]
        have := hm j hlt 1 (by decide)
        rw [show (k0 + ((j * 2 + 1 : Nat) : Int)) = k0 + ((j * 2 : Nat) : Int) + 1 by omega] at this
        exact this
      clear hm
      go_wp2
      go_roundw
      case rel => exact ⟨j + 1, by omega, by go_num, by go_num, hx⟩
      case measure => simp [intOf]; omega
    · obtain rfl : j = n := by omega
      go_wp2
      go_ret
      exact ⟨rfl, hx⟩
end Go.Proofs.YtcpjhpjlcgcigaaGreatDoor
