/- The law FnExactLongestPath returns true, for every input. -/
import Derived.Test.YtcbfpeplcbgpjaaLpB
import Derived.Test.YtcbfpeplcbgpjaaHelps
import Derived.Test.YtcbfpeplcbgpjaaOpens
import Derived.Test.YtcbfpeplcbgpjaaFacts
set_option linter.unusedSimpArgs false
set_option linter.unusedVariables false
set_option maxHeartbeats 2000000
namespace Go.Proofs.Ytcbfpeplcbgpjaa.fnExactLongestPath
open Go.ChangeShapes Go.WideShapes Go.ChangeAt Go.RowKit

set_option maxRecDepth 20000 in
set_option maxHeartbeats 4000000 in
theorem law_f (x0 : SGraph) (x1 : (List Int)) : Fn Try.prog 8 [.agg (dSGraph x0), .sh 1 (ints x1)] (.lit (.bool true)) [] := by
  have hL0 := lessen_or 1048576 (szSGraph x0)
  have hL1 := lessen_or (lessen 1048576 (szSGraph x0)) (szInts x1)
  have hm0 := markStateGraph_le x0
  have hli1 := len_ints x1
  have hls1 : szInts x1 = x1.length := rfl
  refine Fn_old Try.func8 rfl (by kernel_rfl) rfl rfl ?_
  intro w0 A hin
  refine W_start ?_ (by dsimp only [argSlots, List.map_cons, List.map_nil, oldA, old1, dSGraph, Nat.reduceAdd]; done)
  have kp : Keep 12 := ⟨trivial⟩
  repeat' (first | refine goZ ?_ | refine R_callxZ rfl (szStateGraph_f x0 _ (by omega) (by omega)) rfl rfl rfl rfl (by repeat' (first | exact trivial | rfl | refine And.intro ?_ ?_)) ?_ | refine R_callxZ rfl (toStateGraph_f x0 (by omega)) rfl rfl rfl rfl (by repeat' (first | exact trivial | rfl | refine And.intro ?_ ?_)) ?_ | refine R_callxZ rfl (eqStateGraph_f x0) rfl rfl rfl rfl (by repeat' (first | exact trivial | rfl | refine And.intro ?_ ?_)) ?_ | refine R_callxZ rfl (szIntS_f x1 _ (by omega) (by omega)) rfl rfl rfl rfl (by repeat' (first | exact trivial | rfl | refine And.intro ?_ ?_)) ?_ | refine R_callxZ rfl (toIntS_f x1 (by omega)) rfl rfl rfl rfl (by repeat' (first | exact trivial | rfl | refine And.intro ?_ ?_)) ?_ | refine R_callxZ rfl (eqIntS_f x1) rfl rfl rfl rfl (by repeat' (first | exact trivial | rfl | refine And.intro ?_ ?_)) ?_ | refine R_callxZ rfl (specLongestPath_f x0 x1) rfl rfl rfl rfl (by repeat' (first | exact trivial | rfl | refine And.intro ?_ ?_)) ?_ | refine R_callxZ rfl (LongestPath_f x0 x1) rfl rfl rfl rfl (by repeat' (first | exact trivial | rfl | refine And.intro ?_ ?_)) ?_ | refine R_markZ rfl (markStateGraph_m x0 _ (by omega) (by omega) (by omega)) rfl rfl rfl rfl rfl rfl rfl rfl ?_ | refine R_markZ rfl (markIntS_m x1 _ (by omega) (by omega) (by omega)) rfl rfl rfl rfl rfl rfl rfl rfl ?_ | refine D_callxZ rfl (szStateGraph_f x0 _ (by omega) (by omega)) rfl rfl rfl rfl (by repeat' (first | exact trivial | rfl | refine And.intro ?_ ?_)) ?_ | refine D_callxZ rfl (toStateGraph_f x0 (by omega)) rfl rfl rfl rfl (by repeat' (first | exact trivial | rfl | refine And.intro ?_ ?_)) ?_ | refine D_callxZ rfl (eqStateGraph_f x0) rfl rfl rfl rfl (by repeat' (first | exact trivial | rfl | refine And.intro ?_ ?_)) ?_ | refine D_callxZ rfl (szIntS_f x1 _ (by omega) (by omega)) rfl rfl rfl rfl (by repeat' (first | exact trivial | rfl | refine And.intro ?_ ?_)) ?_ | refine D_callxZ rfl (toIntS_f x1 (by omega)) rfl rfl rfl rfl (by repeat' (first | exact trivial | rfl | refine And.intro ?_ ?_)) ?_ | refine D_callxZ rfl (eqIntS_f x1) rfl rfl rfl rfl (by repeat' (first | exact trivial | rfl | refine And.intro ?_ ?_)) ?_ | refine D_callxZ rfl (specLongestPath_f x0 x1) rfl rfl rfl rfl (by repeat' (first | exact trivial | rfl | refine And.intro ?_ ?_)) ?_ | refine D_callxZ rfl (LongestPath_f x0 x1) rfl rfl rfl rfl (by repeat' (first | exact trivial | rfl | refine And.intro ?_ ?_)) ?_ | ((first | refine R_cond rfl (fun hq => ?_) fun hq => ?_ | refine R_guardT rfl rfl rfl (fun hq => ?_) fun hq => ?_ | refine R_guardF rfl rfl rfl (fun hq => ?_) fun hq => ?_ | refine D_guardT rfl rfl rfl (fun hq => ?_) fun hq => ?_ | refine D_guardF rfl rfl rfl (fun hq => ?_) fun hq => ?_) <;> (try rw [hq]) <;> first | have hp := of_decide_eq_true hq | have hp := of_decide_eq_false hq | have hp := of_decide_eq_false (not_t hq) | have hp := of_decide_eq_true (not_f hq) | have hp := hq))
  all_goals first
    | exact ret_bool' rfl rfl
    | (exfalso; simp at hq; done)
    | (exfalso; simp at hp; done)
    | (exfalso; omega)
    | (exfalso; simp_all; done)
    | (exfalso; simp_all; omega)

theorem walk (w : World) (a0p0 : Option Addr) (c0p0 : Nat) (a1p0 : Option Addr) (c1p0 : Nat) (a2p0 : Option Addr) (c2p0 : Nat) (x0 : SGraph) (h0 : tSGraph.R w x0 [.slice a0p0 x0.signals.length c0p0, .slice a1p0 x0.codes.length c1p0, .slice a2p0 x0.arcs.length c2p0]) (ap1 : Option Addr) (cp1 : Nat) (x1 : (List Int)) (h1 : (tSl tInt).R w x1 [.slice ap1 x1.length cp1]) :
    Calls Try.prog 8 #[.agg #[.slice a0p0 x0.signals.length c0p0, .slice a1p0 x0.codes.length c1p0, .slice a2p0 x0.arcs.length c2p0], .slice ap1 x1.length cp1] w fun e w' => e = .returned (.bool true) ∧ Ext w w' :=
  (law_f x0 x1).lit (.cons (.agg (br_SGraph.vxs h0)) (.cons (by cases ((br_sl br_int).vxs h1) with | cons a _ => exact a) .nil))

theorem own : ownKnob Try.prog.godebug = none := by kernel_rfl

set_option maxRecDepth 100000 in
theorem lifted (os : Os) (started : os.Started) (H : Type) (enc : TypeId × Value → H) :
    ReturnsInHanded {} Try.checked os 8 .any (Rows.fnExactLongestPathSpec.pre6 enc Try.prog Try.f8 Rows.fnExactLongestPathRow.domain false) (Rows.fnExactLongestPathSpec.post enc Try.prog Try.f8 false true false false) := by
  refine returnsInHanded_of_change (C := Try.checked) own started (by kernel_rfl) Try.func8
    (ChangeSpec.witness6 (enc := enc) (C := Try.checked) false ⟨#[], #[.agg #[.slice none 0 0, .slice none 0 0, .slice none 0 0], .slice none 0 0], []⟩ 8 (by kernel_rfl) (by kernel_rfl) (by kernel_rfl) (by kernel_rfl)) ?_
  intro W base args ds gs before hval0 hW hcnd _
  have hval : ∀ (j : Nat) t v, Try.f8.params[j]? = some t → args[j]? = some v → Value.okWide Try.prog W .any base t v := hval0
  have hW' := hW
  have hlt := fun p hp => DataW.Whole.lt hW p hp
  obtain ⟨p, q, hA0, hV, rfl, hfz, hnd⟩ := hW
  have hA : DataW.TrodAll enc Try.prog W 0 (fun _ => true) true Try.f8.params.toList args.toList ds p := hA0
  have hA1 := hA
  rw [Try.params8] at hA hval
  obtain ⟨v0, vs0, d0, ds0, p0, q0, hargs, rfl, _, h0, r0⟩ := trodAll_cons hA
  obtain ⟨v1, vs1, d1, ds1, p1, q1, rfl, rfl, _, h1, r1⟩ := trodAll_cons r0
  obtain ⟨rfl, rfl, _⟩ := trodAll_nil r1
  obtain rfl : args = #[v0, v1] := by cases args; simp_all
  obtain ⟨rfl, rfl⟩ := trodVars_none hV
  obtain ⟨cs0, x0, rfl, hx0⟩ := open_struct opens_SGraph Try.underlying38 (hval 0 38 v0 rfl rfl) h0
  obtain ⟨a0_0, c0_0, a1_0, c1_0, a2_0, c2_0, e0⟩ := shape_SGraph hx0
  obtain rfl : cs0 = #[.slice a0_0 x0.signals.length c0_0, .slice a1_0 x0.codes.length c1_0, .slice a2_0 x0.arcs.length c2_0] := by rw [← Array.toArray_toList (xs := cs0), e0]
  obtain ⟨a1, c1, x1, rfl, hx1⟩ := open_slice (opens_sl Try.underlying78 (by kernel_rfl) (by decide) (opens_int Try.underlying3)) Try.underlying78 (hval 1 78 v1 rfl rfl) h1
  clear hA0 hval0
  refine (walk W a0_0 c0_0 a1_0 c1_0 a2_0 c2_0 x0 hx0 a1 c1 x1 hx1).mono fun e W' ⟨he, hg⟩ => ?_
  subst he
  refine ⟨_, rfl, post_of_below (pa := p) (pv := []) hW' (fun _ _ _ => (trodAll_cons_mk (shut_bool Try.underlying4 _) trodAll_mk0)) (fun sp hsp => ?_) (fun sp _ => rfl) rfl hg (ok_one (by kernel_rfl) rfl (okWide_bool_mk Try.underlying4 _))⟩
  exact trodAll_below (by kernel_rfl) hg (of_decide_eq_true (by kernel_rfl)) hA1 (fun x hx => hlt x (List.mem_append_left _ hx)) (fun x hx => hsp x (List.mem_append_left _ hx))

theorem part9 : (Rows.fnExactLongestPathRow.inPlace == Try.checked.prog.inPlace 8) = true := by kernel_rfl
theorem part10 : (Rows.fnExactLongestPathRow.unfollowed == Try.checked.prog.unfollowed 8) = true := by kernel_rfl
theorem part11 : (Rows.fnExactLongestPathRow.recurses == Try.checked.prog.recurses 8) = true := by kernel_rfl
theorem part12 : (Rows.fnExactLongestPathRow.named == Try.checked.prog.varsNamed 8) = true := by kernel_rfl
theorem named : Try.checked.prog.funcNamed Rows.fnExactLongestPathRow.func = some 8 := by kernel_rfl
theorem closed : joinedFacts Try.checked.prog 8 Try.f8 Rows.fnExactLongestPathSpec Rows.fnExactLongestPathRow = true := by
  unfold joinedFacts
  exact (and_tt (and_tt (and_tt (and_tt (and_tt (and_tt (and_tt (and_tt (and_tt (and_tt (and_tt (and_tt (and_tt (and_tt (and_tt (and_tt (and_tt (and_tt (and_tt (and_tt (and_tt (and_tt (and_tt (and_tt (and_tt (and_tt (and_tt (and_tt (and_tt (and_tt (and_tt (by kernel_rfl) glob1) glob2) (by kernel_rfl)) (by kernel_rfl)) (by kernel_rfl)) glob6) (by kernel_rfl)) glob8) part9) part10) part11) part12) (by kernel_rfl)) (by kernel_rfl)) (by kernel_rfl)) (by kernel_rfl)) (by kernel_rfl)) (by kernel_rfl)) (by kernel_rfl)) (by kernel_rfl)) (by kernel_rfl)) glob22) (by kernel_rfl)) glob24) glob25) glob26) glob27) (by kernel_rfl)) (by kernel_rfl)) (by kernel_rfl)) (by kernel_rfl))

theorem over : Rows.fnExactLongestPathRow.holds Try.pinned (OpenSpec.ofChange Rows.fnExactLongestPathSpec) :=
  OpenClaim.holds_of_wide 8 Try.f8 rfl rfl rfl rfl rfl rfl rfl ⟨rfl, rfl, rfl, rfl, rfl⟩ rfl rfl rfl rfl rfl named Try.func8 closed
    (of_decide_eq_true (by kernel_rfl)) (by unfold Func.isWrapper; first | (rw [if_pos (by decide +kernel)]; kernel_rfl) | (rw [if_neg (by decide +kernel)]; exact ⟨rfl, rfl⟩))
    (fun os started H enc _ => lifted os started H enc)

theorem proved : Rows.FnExactLongestPathSaid :=
  over
#print axioms proved
end Go.Proofs.Ytcbfpeplcbgpjaa.fnExactLongestPath
