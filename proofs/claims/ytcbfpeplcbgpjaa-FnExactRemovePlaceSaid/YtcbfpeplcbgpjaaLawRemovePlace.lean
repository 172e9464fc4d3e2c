/- The law FnExactRemovePlace returns true, for every input. -/
import Derived.Test.YtcbfpeplcbgpjaaRmB
import Derived.Test.YtcbfpeplcbgpjaaRmA
import Derived.Test.YtcbfpeplcbgpjaaHelps
import Derived.Test.YtcbfpeplcbgpjaaOpens
import Derived.Test.YtcbfpeplcbgpjaaFacts
set_option linter.unusedSimpArgs false
set_option linter.unusedVariables false
set_option maxHeartbeats 2000000
namespace Go.Proofs.Ytcbfpeplcbgpjaa.fnExactRemovePlace
open Go.ChangeShapes Go.WideShapes Go.ChangeAt Go.RowKit

set_option maxRecDepth 20000 in
set_option maxHeartbeats 4000000 in
theorem law_f (x0 : Stg) (x1 : Int) : Fn Try.prog 7 [.agg (dStg x0), .lit (.int .i64 x1)] (.lit (.bool true)) [] := by
  have hL0 := lessen_or 1048576 (szStg x0)
  obtain ⟨⟨⟨hnt, hnu⟩, hns, hnl⟩, hnp⟩ := rmR_le x0 x1
  refine Fn_old Try.func7 rfl (by kernel_rfl) rfl rfl ?_
  intro w0 A hin
  refine W_start ?_ (by dsimp only [argSlots, List.map_cons, List.map_nil, oldA, old1, dStg, Nat.reduceAdd]; done)
  have kp : Keep 16 := ⟨trivial⟩
  repeat' (first | refine goZ ?_ | refine R_callxZ rfl (szSTG_f x0 _ (by omega) (by omega)) rfl rfl rfl rfl (by repeat' (first | exact trivial | rfl | refine And.intro ?_ ?_)) ?_ | refine R_callxZ rfl (toSTG_f x0 (by omega)) rfl rfl rfl rfl (by repeat' (first | exact trivial | rfl | refine And.intro ?_ ?_)) ?_ | refine R_callxZ rfl (eqSTG_f x0) rfl rfl rfl rfl (by repeat' (first | exact trivial | rfl | refine And.intro ?_ ?_)) ?_ | refine R_callxZ rfl (specRemovePlace_f x0 x1 (by omega)) rfl rfl rfl rfl (by repeat' (first | exact trivial | rfl | refine And.intro ?_ ?_)) ?_ | refine R_callxZ rfl (RemovePlace_f x0 x1 (by omega)) rfl rfl rfl rfl (by repeat' (first | exact trivial | rfl | refine And.intro ?_ ?_)) ?_ | refine R_callxZ rfl (eqSTG_f (rmR x0 x1)) rfl rfl rfl rfl (by repeat' (first | exact trivial | rfl | refine And.intro ?_ ?_)) ?_ | refine R_callxZ rfl (heldSTG_f (rmR x0 x1) ⟨by omega, by omega, by omega, by omega⟩ _ hnp _ _ (by omega) (by omega)) rfl rfl rfl rfl (by repeat' (first | exact trivial | rfl | refine And.intro ?_ ?_)) ?_ | refine R_markZ rfl (markSTG_m x0 _ (by omega) (by omega) (by omega)) rfl rfl rfl rfl rfl rfl rfl rfl ?_ | refine R_markZ rfl (markSTG_n (rmR x0 x1) ⟨by omega, by omega, by omega, by omega⟩ _ (by omega) (by omega)) rfl rfl rfl rfl rfl rfl rfl rfl ?_ | refine D_callxZ rfl (szSTG_f x0 _ (by omega) (by omega)) rfl rfl rfl rfl (by repeat' (first | exact trivial | rfl | refine And.intro ?_ ?_)) ?_ | refine D_callxZ rfl (toSTG_f x0 (by omega)) rfl rfl rfl rfl (by repeat' (first | exact trivial | rfl | refine And.intro ?_ ?_)) ?_ | refine D_callxZ rfl (eqSTG_f x0) rfl rfl rfl rfl (by repeat' (first | exact trivial | rfl | refine And.intro ?_ ?_)) ?_ | refine D_callxZ rfl (specRemovePlace_f x0 x1 (by omega)) rfl rfl rfl rfl (by repeat' (first | exact trivial | rfl | refine And.intro ?_ ?_)) ?_ | refine D_callxZ rfl (RemovePlace_f x0 x1 (by omega)) rfl rfl rfl rfl (by repeat' (first | exact trivial | rfl | refine And.intro ?_ ?_)) ?_ | refine D_callxZ rfl (eqSTG_f (rmR x0 x1)) rfl rfl rfl rfl (by repeat' (first | exact trivial | rfl | refine And.intro ?_ ?_)) ?_ | refine D_callxZ rfl (heldSTG_f (rmR x0 x1) ⟨by omega, by omega, by omega, by omega⟩ _ hnp _ _ (by omega) (by omega)) rfl rfl rfl rfl (by repeat' (first | exact trivial | rfl | refine And.intro ?_ ?_)) ?_ | ((first | refine R_cond rfl (fun hq => ?_) fun hq => ?_ | refine R_guardT rfl rfl rfl (fun hq => ?_) fun hq => ?_ | refine R_guardF rfl rfl rfl (fun hq => ?_) fun hq => ?_ | refine D_guardT rfl rfl rfl (fun hq => ?_) fun hq => ?_ | refine D_guardF rfl rfl rfl (fun hq => ?_) fun hq => ?_) <;> (try rw [hq]) <;> first | have hp := of_decide_eq_true hq | have hp := of_decide_eq_false hq | have hp := of_decide_eq_false (not_t hq) | have hp := of_decide_eq_true (not_f hq) | have hp := hq))
  all_goals first
    | exact ret_bool' rfl rfl
    | (exfalso; simp at hq; done)
    | (exfalso; simp at hp; done)
    | (exfalso; omega)
    | (exfalso; simp_all; done)
    | (exfalso; simp_all; omega)

theorem walk (w : World) (a1p0 : Option Addr) (c1p0 : Nat) (a2p0 : Option Addr) (c2p0 : Nat) (a3p0 : Option Addr) (c3p0 : Nat) (x0 : Stg) (h0 : tStg.R w x0 [.int .i64 x0.net.places, .slice a1p0 x0.net.trs.length c1p0, .slice a2p0 x0.signals.length c2p0, .slice a3p0 x0.labels.length c3p0, .string x0.start]) (x1 : Int) (hi1 : Int64 x1) :
    Calls Try.prog 7 #[.agg #[.int .i64 x0.net.places, .slice a1p0 x0.net.trs.length c1p0, .slice a2p0 x0.signals.length c2p0, .slice a3p0 x0.labels.length c3p0, .string x0.start], .int .i64 x1] w fun e w' => e = .returned (.bool true) ∧ Ext w w' :=
  (law_f x0 x1).lit (.cons (.agg (br_Stg.vxs h0)) (.cons (VX.of_lit (litOk_i64.2 hi1)) .nil))

theorem own : ownKnob Try.prog.godebug = none := by kernel_rfl

set_option maxRecDepth 100000 in
theorem lifted (os : Os) (started : os.Started) (H : Type) (enc : TypeId × Value → H) :
    ReturnsInHanded {} Try.checked os 7 .any (Rows.fnExactRemovePlaceSpec.pre6 enc Try.prog Try.f7 Rows.fnExactRemovePlaceRow.domain false) (Rows.fnExactRemovePlaceSpec.post enc Try.prog Try.f7 false true false false) := by
  refine returnsInHanded_of_change (C := Try.checked) own started (by kernel_rfl) Try.func7
    (ChangeSpec.witness6 (enc := enc) (C := Try.checked) false ⟨#[], #[.agg #[.int .i64 0, .slice none 0 0, .slice none 0 0, .slice none 0 0, .string ⟨#[]⟩], .int .i64 0], []⟩ 8 (by kernel_rfl) (by kernel_rfl) (by kernel_rfl) (by kernel_rfl)) ?_
  intro W base args ds gs before hval0 hW hcnd _
  have hval : ∀ (j : Nat) t v, Try.f7.params[j]? = some t → args[j]? = some v → Value.okWide Try.prog W .any base t v := hval0
  have hW' := hW
  have hlt := fun p hp => DataW.Whole.lt hW p hp
  obtain ⟨p, q, hA0, hV, rfl, hfz, hnd⟩ := hW
  have hA : DataW.TrodAll enc Try.prog W 0 (fun _ => true) true Try.f7.params.toList args.toList ds p := hA0
  have hA1 := hA
  rw [Try.params7] at hA hval
  obtain ⟨v0, vs0, d0, ds0, p0, q0, hargs, rfl, _, h0, r0⟩ := trodAll_cons hA
  obtain ⟨v1, vs1, d1, ds1, p1, q1, rfl, rfl, _, h1, r1⟩ := trodAll_cons r0
  obtain ⟨rfl, rfl, _⟩ := trodAll_nil r1
  obtain rfl : args = #[v0, v1] := by cases args; simp_all
  obtain ⟨rfl, rfl⟩ := trodVars_none hV
  obtain ⟨cs0, x0, rfl, hx0⟩ := open_struct opens_Stg Try.underlying65 (hval 0 65 v0 rfl rfl) h0
  obtain ⟨a1_0, c1_0, a2_0, c2_0, a3_0, c3_0, e0⟩ := shape_Stg hx0
  obtain rfl : cs0 = #[.int .i64 x0.net.places, .slice a1_0 x0.net.trs.length c1_0, .slice a2_0 x0.signals.length c2_0, .slice a3_0 x0.labels.length c3_0, .string x0.start] := by rw [← Array.toArray_toList (xs := cs0), e0]
  obtain ⟨x1, rfl, hx1⟩ := open_i64 Try.underlying3 (hval 1 3 v1 rfl rfl) h1
  clear hA0 hval0
  refine (walk W a1_0 c1_0 a2_0 c2_0 a3_0 c3_0 x0 hx0 x1 hx1).mono fun e W' ⟨he, hg⟩ => ?_
  subst he
  refine ⟨_, rfl, post_of_below (pa := p) (pv := []) hW' (fun _ _ _ => (trodAll_cons_mk (shut_bool Try.underlying4 _) trodAll_mk0)) (fun sp hsp => ?_) (fun sp _ => rfl) rfl hg (ok_one (by kernel_rfl) rfl (okWide_bool_mk Try.underlying4 _))⟩
  exact trodAll_below (by kernel_rfl) hg (of_decide_eq_true (by kernel_rfl)) hA1 (fun x hx => hlt x (List.mem_append_left _ hx)) (fun x hx => hsp x (List.mem_append_left _ hx))

theorem part9 : (Rows.fnExactRemovePlaceRow.inPlace == Try.checked.prog.inPlace 7) = true := by kernel_rfl
theorem part10 : (Rows.fnExactRemovePlaceRow.unfollowed == Try.checked.prog.unfollowed 7) = true := by kernel_rfl
theorem part11 : (Rows.fnExactRemovePlaceRow.recurses == Try.checked.prog.recurses 7) = true := by kernel_rfl
theorem part12 : (Rows.fnExactRemovePlaceRow.named == Try.checked.prog.varsNamed 7) = true := by kernel_rfl
theorem named : Try.checked.prog.funcNamed Rows.fnExactRemovePlaceRow.func = some 7 := by kernel_rfl
theorem closed : joinedFacts Try.checked.prog 7 Try.f7 Rows.fnExactRemovePlaceSpec Rows.fnExactRemovePlaceRow = true := by
  unfold joinedFacts
  exact (and_tt (and_tt (and_tt (and_tt (and_tt (and_tt (and_tt (and_tt (and_tt (and_tt (and_tt (and_tt (and_tt (and_tt (and_tt (and_tt (and_tt (and_tt (and_tt (and_tt (and_tt (and_tt (and_tt (and_tt (and_tt (and_tt (and_tt (and_tt (and_tt (and_tt (and_tt (by kernel_rfl) glob1) glob2) (by kernel_rfl)) (by kernel_rfl)) (by kernel_rfl)) glob6) (by kernel_rfl)) glob8) part9) part10) part11) part12) (by kernel_rfl)) (by kernel_rfl)) (by kernel_rfl)) (by kernel_rfl)) (by kernel_rfl)) (by kernel_rfl)) (by kernel_rfl)) (by kernel_rfl)) (by kernel_rfl)) glob22) (by kernel_rfl)) glob24) glob25) glob26) glob27) (by kernel_rfl)) (by kernel_rfl)) (by kernel_rfl)) (by kernel_rfl))

theorem over : Rows.fnExactRemovePlaceRow.holds Try.pinned (OpenSpec.ofChange Rows.fnExactRemovePlaceSpec) :=
  OpenClaim.holds_of_wide 7 Try.f7 rfl rfl rfl rfl rfl rfl rfl ⟨rfl, rfl, rfl, rfl, rfl⟩ rfl rfl rfl rfl rfl named Try.func7 closed
    (of_decide_eq_true (by kernel_rfl)) (by unfold Func.isWrapper; first | (rw [if_pos (by decide +kernel)]; kernel_rfl) | (rw [if_neg (by decide +kernel)]; exact ⟨rfl, rfl⟩))
    (fun os started H enc _ => lifted os started H enc)

theorem proved : Rows.FnExactRemovePlaceSaid :=
  over
#print axioms proved
end Go.Proofs.Ytcbfpeplcbgpjaa.fnExactRemovePlace
