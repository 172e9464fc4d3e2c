/- EqualStateGraph, the reference's and the program's. -/
import Derived.Test.YtaeepdgnaoobnaaSpecESG
namespace Go.Proofs.Ytaeepdgnaoobnaa
open Go.ChangeShapes Go.WideShapes Go.ChangeAt Go.RowKit

set_option maxHeartbeats 400000 in
theorem EqualStateGraph_c (w : World) (a0 : Option Addr) (c0 : Nat) (a1 : Option Addr) (c1 : Nat) (a2 : Option Addr) (c2 : Nat) (x : SGraph) (h : tSGraph.R w x [.slice a0 x.signals.length c0, .slice a1 x.codes.length c1, .slice a2 x.arcs.length c2])
    (b0 : Option Addr) (d0 : Nat) (b1 : Option Addr) (d1 : Nat) (b2 : Option Addr) (d2 : Nat) (y : SGraph) (h' : tSGraph.R w y [.slice b0 y.signals.length d0, .slice b1 y.codes.length d1, .slice b2 y.arcs.length d2]) :
    Calls Try.prog 26 #[.agg #[.slice a0 x.signals.length c0, .slice a1 x.codes.length c1, .slice a2 x.arcs.length c2], .agg #[.slice b0 y.signals.length d0, .slice b1 y.codes.length d1, .slice b2 y.arcs.length d2]] w
      fun e w' => e = .returned (.bool (eqSG x y)) ∧ Ext w w' := by
  have HB : Hid (eqSG x y = (decide (x.signals = y.signals) && decide (x.codes = y.codes) && decide (x.arcs = y.arcs))) := Lib.hid rfl
  obtain ⟨h0, h1, h2⟩ := R_SGraph.1 h
  obtain ⟨h0', h1', h2'⟩ := R_SGraph.1 h'
  have H0 := Lib.hid h0
  have H1 := Lib.hid h1
  have H2 := Lib.hid h2
  have H0' := Lib.hid h0'
  have H1' := Lib.hid h1'
  have H2' := Lib.hid h2'
  clear h h' h0 h1 h2 h0' h1' h2'
  go_enter Try.func26, Try.ntmps26
  go_wp2_with fail
  refine (Equal_Sig_c _ _ _ _ _ _ _ (H0.out.ext (((Ext.refl _).alloc _).alloc _)) (H0'.out.ext (((Ext.refl _).alloc _).alloc _))).mono ?_
  rintro e w1 ⟨rfl, hx1⟩
  have hE1 : Ext w w1 := (((Ext.refl _).alloc _).alloc _).trans hx1
  obtain ⟨hk1, hf1⟩ := hx1.cells
  simp only [World.size_alloc] at hk1 hf1
  cases hg : decide (x.signals = y.signals)
  all_goals have HG := Lib.hid hg
  all_goals clear hg
  · go_wp2
    go_ret
    exact ⟨ret_bool (by rw [HB.out, HG.out]; rfl), hE1⟩
  · go_wp2_with fail
    refine (Equal_Str_c _ _ _ _ _ _ _ (H1.out.ext hE1) (H1'.out.ext hE1)).mono ?_
    rintro e w2 ⟨rfl, hx2⟩
    have hE2 := hE1.trans hx2
    obtain ⟨hk2, hf2⟩ := (hx1.trans hx2).cells
    simp only [World.size_alloc] at hk2 hf2
    cases hg : decide (x.codes = y.codes)
    all_goals have HG2 := Lib.hid hg
    all_goals clear hg
    · go_wp2
      go_ret
      exact ⟨ret_bool (by rw [HB.out, HG2.out]; simp), hE2⟩
    · go_wp2_with fail
      refine (Equal_ArcD_c _ _ _ _ _ _ _ (H2.out.ext hE2) (H2'.out.ext hE2)).mono ?_
      rintro e w3 ⟨rfl, hx3⟩
      go_wp2
      go_ret
      exact ⟨ret_bool (by rw [HB.out, HG.out, HG2.out]; simp), hE2.trans hx3⟩
end Go.Proofs.Ytaeepdgnaoobnaa
