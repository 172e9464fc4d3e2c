/- The law FnExactFormatArcs returns true, for every input. -/
import Derived.Test.YtkegeacjalechaaDoorFar
import Derived.Test.YtkegeacjalechaaDoorKwl
import Derived.Test.YtkegeacjalechaaDoorHelps
import Derived.Test.YtkegeacjalechaaDoorOpens
import Derived.Test.YtkegeacjalechaaDoorFacts
import Derived.Test.YtkegeacjalechaaDoorTie
import Derived.Test.YtkegeacjalechaaDoorCards
import Derived.LaidMore
import Derived.LaidHandle
import Derived.MakeChecks
import Derived.SevenTiedAt
import Derived.Deep.DeepWitnessRef
set_option linter.unusedSimpArgs false
set_option linter.unusedVariables false
set_option maxHeartbeats 2000000
namespace Go.Proofs.YtkegeacjalechaaDoor.fnExactFormatArcs
open Go.ChangeShapes Go.WideShapes Go.ChangeAt Go.RowKit

set_option maxRecDepth 20000 in
set_option maxHeartbeats 4000000 in
theorem law_f (x0 : Stg) : FnG KW Tryd.prog 6 [.agg (dStg x0)] (.lit (.bool true)) [] := by
  have hL0 := lessen_or 1048576 (szStg x0)
  have := start_le x0
  refine FnG_old Tryd.func6 rfl (by kernel_rfl) rfl rfl ?_
  intro w0 A hX hin
  refine W_start ?_ (by dsimp only [argSlots, List.map_cons, List.map_nil, oldA, old1, dStg, Nat.reduceAdd]; done)
  have kp : Keep 9 := ⟨trivial⟩
  repeat' (first | refine goZ ?_ | refine R_callxZ rfl (szSTG_f x0 _ (by omega) (by omega)) rfl rfl rfl rfl (by repeat' (first | exact trivial | rfl | refine And.intro ?_ ?_)) ?_ | refine R_callxZ rfl (toSTG_f x0 (by omega)) rfl rfl rfl rfl (by repeat' (first | exact trivial | rfl | refine And.intro ?_ ?_)) ?_ | refine R_callxZ rfl (eqSTG_f x0) rfl rfl rfl rfl (by repeat' (first | exact trivial | rfl | refine And.intro ?_ ?_)) ?_ | refine R_callxZ rfl (specFormatArcs_f x0 (by omega)) rfl rfl rfl rfl (by repeat' (first | exact trivial | rfl | refine And.intro ?_ ?_)) ?_ | refine R_callxGZ (fun _ h => hX.ext h) rfl (FormatArcs_g x0 (by omega)) rfl rfl rfl rfl (by repeat' (first | exact trivial | rfl | refine And.intro ?_ ?_)) ?_ | refine D_callxZ rfl (szSTG_f x0 _ (by omega) (by omega)) rfl rfl rfl rfl (by repeat' (first | exact trivial | rfl | refine And.intro ?_ ?_)) ?_ | refine D_callxZ rfl (toSTG_f x0 (by omega)) rfl rfl rfl rfl (by repeat' (first | exact trivial | rfl | refine And.intro ?_ ?_)) ?_ | refine D_callxZ rfl (eqSTG_f x0) rfl rfl rfl rfl (by repeat' (first | exact trivial | rfl | refine And.intro ?_ ?_)) ?_ | refine D_callxZ rfl (specFormatArcs_f x0 (by omega)) rfl rfl rfl rfl (by repeat' (first | exact trivial | rfl | refine And.intro ?_ ?_)) ?_ | ((first | refine R_cond rfl (fun hq => ?_) fun hq => ?_ | refine R_guardT rfl rfl rfl (fun hq => ?_) fun hq => ?_ | refine R_guardF rfl rfl rfl (fun hq => ?_) fun hq => ?_ | refine D_guardT rfl rfl rfl (fun hq => ?_) fun hq => ?_ | refine D_guardF rfl rfl rfl (fun hq => ?_) fun hq => ?_) <;> (try rw [hq]) <;> first | have hp := of_decide_eq_true hq | have hp := of_decide_eq_false hq | have hp := of_decide_eq_false (not_t hq) | have hp := of_decide_eq_true (not_f hq) | have hp := hq))
  all_goals first
    | exact ret_bool' rfl rfl
    | (exfalso; simp at hq; done)
    | (exfalso; simp at hp; done)
    | (exfalso; omega)
    | (exfalso; simp_all; done)
    | (exfalso; simp_all; omega)

theorem walk (w : World) (hK : KW w) (a1p0 : Option Addr) (c1p0 : Nat) (a2p0 : Option Addr) (c2p0 : Nat) (a3p0 : Option Addr) (c3p0 : Nat) (x0 : Stg) (h0 : tStg.R w x0 [.int .i64 x0.net.places, .slice a1p0 x0.net.trs.length c1p0, .slice a2p0 x0.signals.length c2p0, .slice a3p0 x0.labels.length c3p0, .string x0.start]) :
    Calls Tryd.prog 6 #[.agg #[.int .i64 x0.net.places, .slice a1p0 x0.net.trs.length c1p0, .slice a2p0 x0.signals.length c2p0, .slice a3p0 x0.labels.length c3p0, .string x0.start]] w fun e w' => e = .returned (.bool true) ∧ Ext w w' :=
  (law_f x0).lit hK (.cons (.agg (br_Stg.vxs h0)) .nil)

/-- The door's own heap meets the condition. -/
theorem door_met (os : Os) (args : Array Value) : laidMetH Tryd.prog Rows.fnExactFormatArcsRow.laid ((World.doorLaid Tryd.prog 29 os).forCall (fun _ _ => 0) ⟨#[], args, []⟩).memory :=
  laidMetH_of_parts3 (fuel := 8) (laidMet_of_run' 8 (by kernel_rfl) (by kernel_rfl)) (by kernel_rfl) (by kernel_rfl)

theorem own : ownKnob Tryd.prog.godebug = none := by kernel_rfl

set_option maxRecDepth 100000 in
theorem lifted (os : Os) (started : os.Started) (H : Type) (enc : TypeId × Value → H) :
    ReturnsInHanded {} Tryd.checked os 6 .any (fun w args => (Rows.fnExactFormatArcsSpec.pre enc Tryd.prog Tryd.f6 Rows.fnExactFormatArcsRow.domain false w args ∧ laidMetH Tryd.prog Rows.fnExactFormatArcsRow.laid w) ∧ sizedMet enc Tryd.prog Tryd.f6 (OpenSpec.ofChange Rows.fnExactFormatArcsSpec) false w args) (Rows.fnExactFormatArcsSpec.post enc Tryd.prog Tryd.f6 false true false false) := by
  refine returnsInHanded_of_change_and (C := Tryd.checked) (X := (fun w _ => laidMetH Tryd.prog Rows.fnExactFormatArcsRow.laid w)) (fun _ _ _ hh h => h.of_heap hh) own started (by kernel_rfl) Tryd.func6
    (ChangeSpec.witness_shaped (enc := enc) (C := Tryd.checked) (os := os) (X := (fun w _ => laidMetH Tryd.prog Rows.fnExactFormatArcsRow.laid w)) false (World.doorLaid Tryd.prog 29 os) #[.agg #[.int .i64 0, .slice none 0 0, .slice none 0 0, .slice none 0 0, .string ⟨#[]⟩]] 8 rfl (World.shaped_of_RefB (by kernel_rfl) (by kernel_rfl)) (by kernel_rfl) (by kernel_rfl) (by kernel_rfl) (door_met os _)) ?_
  intro W base args ds gs before hval0 hW hcnd _ hL _
  have hval : ∀ (j : Nat) t v, Tryd.f6.params[j]? = some t → args[j]? = some v → Value.okWide Tryd.prog W .any base t v := hval0
  have hW' := hW
  have hlt := fun p hp => DataW.Whole.lt hW p hp
  obtain ⟨p, q, hA0, hV, rfl, hfz, hnd⟩ := hW
  have hA : DataW.TrodAll enc Tryd.prog W 0 (fun _ => true) true Tryd.f6.params.toList args.toList ds p := hA0
  have hA1 := hA
  rw [Tryd.params6] at hA hval
  obtain ⟨v0, vs0, d0, ds0, p0, q0, hargs, rfl, _, h0, r0⟩ := trodAll_cons hA
  obtain ⟨rfl, rfl, _⟩ := trodAll_nil r0
  obtain rfl : args = #[v0] := by cases args; simp_all
  have hK := kw_var hL
  obtain ⟨rfl, rfl⟩ := kw_open hK hV
  obtain ⟨cs0, x0, rfl, hx0⟩ := open_struct opens_Stg Tryd.underlying28 (hval 0 28 v0 rfl rfl) h0
  obtain ⟨a1_0, c1_0, a2_0, c2_0, a3_0, c3_0, e0⟩ := shape_Stg hx0
  obtain rfl : cs0 = #[.int .i64 x0.net.places, .slice a1_0 x0.net.trs.length c1_0, .slice a2_0 x0.signals.length c2_0, .slice a3_0 x0.labels.length c3_0, .string x0.start] := by rw [← Array.toArray_toList (xs := cs0), e0]
  clear hA0 hval0
  refine (walk W (kw_KW hK) a1_0 c1_0 a2_0 c2_0 a3_0 c3_0 x0 hx0).mono fun e W' ⟨he, hg⟩ => ?_
  subst he
  refine ⟨_, rfl, post_of_below (pa := p) (pv := _) hW' (fun _ _ _ => (trodAll_cons_mk (shut_bool Tryd.underlying4 _) trodAll_mk0)) (fun sp hsp => ?_) (fun sp _ => kw_again (kw_later hg hK)) rfl hg (ok_one (by kernel_rfl) rfl (okWide_bool_mk Tryd.underlying4 _))⟩
  exact trodAll_below (by kernel_rfl) hg (of_decide_eq_true (by kernel_rfl)) hA1 (fun x hx => hlt x (List.mem_append_left _ hx)) (fun x hx => hsp x (List.mem_append_left _ hx))

theorem part9 : (Rows.fnExactFormatArcsRow.inPlace == Tryd.checked.prog.inPlace 6) = true := by kernel_rfl
theorem part10 : (Rows.fnExactFormatArcsRow.unfollowed == Tryd.checked.prog.unfollowed 6) = true := by kernel_rfl
theorem part11 : (Rows.fnExactFormatArcsRow.recurses == Tryd.checked.prog.recurses 6) = true := by kernel_rfl
theorem part12 : (Rows.fnExactFormatArcsRow.named == Tryd.checked.prog.varsNamed 6) = true := by kernel_rfl
theorem named : Tryd.checked.prog.funcNamed Rows.fnExactFormatArcsRow.func = some 6 := by kernel_rfl
theorem closed : joinedFacts Tryd.checked.prog 6 Tryd.f6 Rows.fnExactFormatArcsSpec Rows.fnExactFormatArcsRow = true := by
  unfold joinedFacts
  exact (and_tt (and_tt (and_tt (and_tt (and_tt (and_tt (and_tt (and_tt (and_tt (and_tt (and_tt (and_tt (and_tt (and_tt (and_tt (and_tt (and_tt (and_tt (and_tt (and_tt (and_tt (and_tt (and_tt (and_tt (and_tt (and_tt (and_tt (and_tt (and_tt (and_tt (and_tt (by kernel_rfl) glob1) glob2) (by kernel_rfl)) (by kernel_rfl)) (by kernel_rfl)) glob6) (by kernel_rfl)) glob8) part9) part10) part11) part12) (by kernel_rfl)) (by kernel_rfl)) (by kernel_rfl)) (by kernel_rfl)) (by kernel_rfl)) (by kernel_rfl)) (by kernel_rfl)) (by kernel_rfl)) (by kernel_rfl)) glob22) (by kernel_rfl)) glob24) glob25) glob26) glob27) (by kernel_rfl)) (by kernel_rfl)) (by kernel_rfl)) (by kernel_rfl))

theorem over : Rows.fnExactFormatArcsRow.holds Tryd.pinned (OpenSpec.ofChange Rows.fnExactFormatArcsSpec) :=
  OpenClaim.holds_of_wide 6 Tryd.f6 rfl rfl rfl rfl rfl rfl rfl ⟨rfl, rfl, rfl, rfl, rfl⟩ rfl rfl rfl rfl rfl named Tryd.func6 closed
    (of_decide_eq_true (by kernel_rfl)) (by unfold Func.isWrapper; first | (rw [if_pos (by decide +kernel)]; kernel_rfl) | (rw [if_neg (by decide +kernel)]; exact ⟨rfl, rfl⟩))
    (fun os started H enc _ => lifted os started H enc)

theorem proved : Rows.FnExactFormatArcsCardSaid :=
  Claim7.holds_tied_plain_at .later [] [.data, .data, .data, .data] true (true, "866ce334c3c2fce178807f07d34c36aade2947ac923dd255505c1bcd331b70ef") false
    over (fun _ h => by cases h) (by kernel_rfl) (fun _ h => by cases h) fnExactFormatArcs_row_tie rfl ⟨rfl, rfl⟩ (by kernel_rfl) rfl
    (fun f fn hf hfn => by
      obtain rfl : f = 6 := (Option.some.inj (named.symm.trans hf)).symm
      obtain rfl : fn = Tryd.f6 := (Option.some.inj (Tryd.func6.symm.trans hfn)).symm
      exact ⟨by kernel_rfl, fun j t ht => by
        rw [Tryd.params6] at ht
        rcases j with _ | j
        · obtain rfl : t = 28 := by simpa using ht.symm
          exact (show Tryd.prog.wantsStandIn 28 = false by kernel_rfl)
        · simp at ht⟩)
    (by kernel_rfl)
#print axioms proved
end Go.Proofs.YtkegeacjalechaaDoor.fnExactFormatArcs
