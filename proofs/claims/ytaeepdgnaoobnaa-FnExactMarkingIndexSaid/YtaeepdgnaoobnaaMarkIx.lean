/- MarkingIndex, the reference's and the program's. -/
import Derived.Test.YtaeepdgnaoobnaaReachC
namespace Go.Proofs.Ytaeepdgnaoobnaa
open Go.ChangeShapes Go.WideShapes Go.ChangeAt Go.RowKit

def mixB (r : RGraph) (s : ByteArray) : Bool := goodReach r && decide (0 ≤ strIx r.marks s)
def mixI (r : RGraph) (s : ByteArray) : Int := if mixB r s then strIx r.marks s else 0

set_option maxHeartbeats 400000 in
theorem MarkingIndex_c (w : World) (a0 : Option Addr) (c0 : Nat) (a1 : Option Addr) (c1 : Nat) (x : RGraph) (h : tRGraph.R w x [.slice a0 x.marks.length c0, .slice a1 x.moves.length c1]) (s : ByteArray) (_ : s.size ≤ 1048576) :
    Calls Try.prog 17 #[.agg #[.slice a0 x.marks.length c0, .slice a1 x.moves.length c1], .string s] w fun e w' => e = .returned (.tuple #[.int .i64 (mixI x s), .bool (mixB x s)]) ∧ Ext w w' := by
  obtain ⟨h0, h1⟩ := R_RGraph.1 h
  have H0 := Lib.hid h0
  have HH := Lib.hid h
  clear h h0 h1
  have HB : Hid (mixB x s = (goodReach x && decide (0 ≤ strIx x.marks s))) := Lib.hid rfl
  have HI : Hid (mixI x s = if mixB x s then strIx x.marks s else 0) := Lib.hid rfl
  have hE0 : Ext w (w.alloc (.cells #[.slice a0 x.marks.length c0, .slice a1 x.moves.length c1] 43)) := (Ext.refl w).alloc _
  go_enter Try.func17, Try.ntmps17
  go_wp2_with fail
  refine (Index_Str_c _ _ _ _ _ (H0.out.ext hE0)).mono ?_
  rintro e w1 ⟨rfl, hx1⟩
  obtain ⟨hk1, hf1⟩ := hx1.cells
  simp only [World.size_alloc] at hk1 hf1
  go_wp2_with fail
  refine (isReach_c _ _ _ _ _ _ (HH.out.ext (hE0.trans hx1))).mono ?_
  rintro e w2 ⟨rfl, hx2⟩
  have HE := Lib.hid (hE0.trans (hx1.trans hx2))
  generalize hg : goodReach x = q
  have HG := Lib.hid hg
  clear hg
  cases q
  · go_wp2
    go_ret2
    exact ⟨ret_int_bool (by rw [HI.out, HB.out, HG.out]; rfl) (by rw [HB.out, HG.out]; rfl), HE.out⟩
  · by_cases hz : strIx x.marks s < 0
    · have HZ := Lib.hid hz
      go_wp2
      go_ret2
      exact ⟨ret_int_bool (by rw [HI.out, HB.out, HG.out, if_neg (by simp; omega)]) (by rw [HB.out, HG.out]; simp; omega), HE.out⟩
    · go_wp2
      go_ret2
      exact ⟨ret_int_bool (by rw [HI.out, HB.out, HG.out, if_pos (by simp; omega)]) (by rw [HB.out, HG.out]; simp; omega), HE.out⟩

set_option maxHeartbeats 400000 in
theorem specMarkingIndex_c (w : World) (a0 : Option Addr) (c0 : Nat) (a1 : Option Addr) (c1 : Nat) (x : RGraph) (h : tRGraph.R w x [.slice a0 x.marks.length c0, .slice a1 x.moves.length c1]) (s : ByteArray) (_ : s.size ≤ 1048576) :
    Calls Try.prog 15 #[.agg #[.slice a0 x.marks.length c0, .slice a1 x.moves.length c1], .string s] w fun e w' => e = .returned (.tuple #[.int .i64 (mixI x s), .bool (mixB x s)]) ∧ Ext w w' := by
  obtain ⟨h0, h1⟩ := R_RGraph.1 h
  have H0 := Lib.hid h0
  have HH := Lib.hid h
  clear h h0 h1
  have HB : Hid (mixB x s = (goodReach x && decide (0 ≤ strIx x.marks s))) := Lib.hid rfl
  have HI : Hid (mixI x s = if mixB x s then strIx x.marks s else 0) := Lib.hid rfl
  have hE0 : Ext w (w.alloc (.cells #[.slice a0 x.marks.length c0, .slice a1 x.moves.length c1] 43)) := (Ext.refl w).alloc _
  go_enter Try.func15, Try.ntmps15
  go_wp2_with fail
  refine (l4Good_c _ _ _ _ _ _ (HH.out.ext hE0)).mono ?_
  rintro e w1 ⟨rfl, hx1⟩
  obtain ⟨hk1, hf1⟩ := hx1.cells
  simp only [World.size_alloc] at hk1 hf1
  generalize hg : goodReach x = q
  have HG := Lib.hid hg
  clear hg
  cases q
  · go_wp2
    go_ret2
    exact ⟨ret_int_bool (by rw [HI.out, HB.out, HG.out]; rfl) (by rw [HB.out, HG.out]; rfl), hE0.trans hx1⟩
  · go_wp2_with fail
    refine (l4Find_c _ _ _ _ _ (H0.out.ext (hE0.trans hx1))).mono ?_
    rintro e w2 ⟨rfl, hx2⟩
    have HE := Lib.hid (hE0.trans (hx1.trans hx2))
    obtain ⟨hk2, hf2⟩ := (hx1.trans hx2).cells
    simp only [World.size_alloc] at hk2 hf2
    clear hk1 hf1
    by_cases hz : strIx x.marks s < 0
    · have HZ := Lib.hid hz
      go_wp2
      go_ret2
      exact ⟨ret_int_bool (by rw [HI.out, HB.out, HG.out, if_neg (by simp; omega)]) (by rw [HB.out, HG.out]; simp; omega), HE.out⟩
    · go_wp2_with fail
      refine (l4Find_c _ _ _ _ _ (H0.out.ext HE.out)).mono ?_
      rintro e w3 ⟨rfl, hx3⟩
      go_wp2
      go_ret2
      exact ⟨ret_int_bool (by rw [HI.out, HB.out, HG.out, if_pos (by simp; omega)]) (by rw [HB.out, HG.out]; simp; omega), HE.out.trans hx3⟩
end Go.Proofs.Ytaeepdgnaoobnaa
