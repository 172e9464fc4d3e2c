/- The law FnExactParseSTG returns true, for every input. -/
import Derived.Test.YtcpjhpjlcgcigaaGreatDoorPrC
import Derived.Test.YtcpjhpjlcgcigaaGreatDoorXwl
import Derived.Test.YtcpjhpjlcgcigaaGreatDoorMarkStg
import Derived.Test.YtcpjhpjlcgcigaaGreatDoorHelps
import Derived.Test.YtcpjhpjlcgcigaaGreatDoorOpens
import Derived.Test.YtcpjhpjlcgcigaaGreatDoorFacts
import Derived.Test.YtcpjhpjlcgcigaaGreatDoorTie
import Derived.Test.YtcpjhpjlcgcigaaGreatDoorCards
import Derived.LaidMore
import Derived.LaidHandle
import Derived.MakeChecks
import Derived.SevenTiedAt
import Derived.Deep.DeepWitnessRef
set_option linter.unusedSimpArgs false
set_option linter.unusedVariables false
set_option maxHeartbeats 2000000
namespace Go.Proofs.YtcpjhpjlcgcigaaGreatDoor.fnExactParseSTG
open Go.ChangeShapes Go.WideShapes Go.ChangeAt Go.RowKit

set_option maxRecDepth 20000 in
set_option maxHeartbeats 4000000 in
theorem law_f (x0 : ByteArray) : FnG XW Tryz.prog 3 [.lit (.string x0)] (.lit (.bool true)) [] := by
  obtain ⟨r0, hr0⟩ : ∃ r0, resS x0 = r0 := ⟨_, rfl⟩
  obtain ⟨⟨⟨hnt, hnu⟩, hns, hnl⟩, hnp⟩ := resS_le hr0
  refine FnG_old Tryz.func3 rfl (by kernel_rfl) rfl rfl ?_
  intro w0 A hX hin
  have hs0 : x0.size ≤ 9223372036854775807 := given_str hin (i := 0) rfl
  have kp : Keep 17 := ⟨trivial⟩
  repeat' (first | refine goZ ?_ | refine R_callxZ rfl ((specParse_g x0 (by omega) r0 hr0).fn) rfl rfl rfl rfl (by repeat' (first | exact trivial | rfl | refine And.intro ?_ ?_)) ?_ | refine R_callxZ rfl (eqSTG_f (stgP r0.p)) rfl rfl rfl rfl (by repeat' (first | exact trivial | rfl | refine And.intro ?_ ?_)) ?_ | refine R_callxZ rfl (heldSTG_f (stgP r0.p) ⟨by omega, by omega, by omega, by omega⟩ _ hnp _ _ (by omega) (by omega)) rfl rfl rfl rfl (by repeat' (first | exact trivial | rfl | refine And.intro ?_ ?_)) ?_ | refine R_markZ rfl (markSTG_n (stgP r0.p) ⟨by omega, by omega, by omega, by omega⟩ _ (by omega) (by omega)) rfl rfl rfl rfl rfl rfl rfl rfl ?_ | refine R_callxGZ (fun _ h => hX.ext h) rfl (Parse_g x0 (by omega) r0 hr0) rfl rfl rfl rfl (by repeat' (first | exact trivial | rfl | refine And.intro ?_ ?_)) ?_ | refine D_callxZ rfl ((specParse_g x0 (by omega) r0 hr0).fn) rfl rfl rfl rfl (by repeat' (first | exact trivial | rfl | refine And.intro ?_ ?_)) ?_ | refine D_callxZ rfl (eqSTG_f (stgP r0.p)) rfl rfl rfl rfl (by repeat' (first | exact trivial | rfl | refine And.intro ?_ ?_)) ?_ | refine D_callxZ rfl (heldSTG_f (stgP r0.p) ⟨by omega, by omega, by omega, by omega⟩ _ hnp _ _ (by omega) (by omega)) rfl rfl rfl rfl (by repeat' (first | exact trivial | rfl | refine And.intro ?_ ?_)) ?_ | ((first | refine R_cond rfl (fun hq => ?_) fun hq => ?_ | refine R_guardT rfl rfl rfl (fun hq => ?_) fun hq => ?_ | refine R_guardF rfl rfl rfl (fun hq => ?_) fun hq => ?_ | refine D_guardT rfl rfl rfl (fun hq => ?_) fun hq => ?_ | refine D_guardF rfl rfl rfl (fun hq => ?_) fun hq => ?_) <;> (try rw [hq]) <;> first | have hp := of_decide_eq_true hq | have hp := of_decide_eq_false hq | have hp := of_decide_eq_false (not_t hq) | have hp := of_decide_eq_true (not_f hq) | have hp := hq))
  all_goals first
    | exact ret_bool' rfl rfl
    | (exfalso; simp at hq; done)
    | (exfalso; simp at hp; done)
    | (exfalso; omega)
    | (exfalso; simp_all; done)
    | (exfalso; simp_all; omega)

theorem walk (w : World) (hK : XW w) (x0 : ByteArray) (hs0 : x0.size ≤ 9223372036854775807) :
    Calls Tryz.prog 3 #[.string x0] w fun e w' => e = .returned (.bool true) ∧ Ext w w' :=
  (law_f x0).lit hK (.cons (VX.of_lit hs0) .nil)

theorem own : ownKnob Tryz.prog.godebug = none := by kernel_rfl

set_option maxRecDepth 100000 in
theorem lifted (os : Os) (started : os.Started) (H : Type) (enc : TypeId × Value → H) :
    ReturnsInHanded {} Tryz.checked os 3 .any (fun w args => (Rows.fnExactParseSTGSpec.pre enc Tryz.prog Tryz.f3 Rows.fnExactParseSTGRow.domain false w args ∧ laidMetH Tryz.prog Rows.fnExactParseSTGRow.laid w) ∧ sizedMet enc Tryz.prog Tryz.f3 (OpenSpec.ofChange Rows.fnExactParseSTGSpec) false w args) (Rows.fnExactParseSTGSpec.post enc Tryz.prog Tryz.f3 false true false false) := by
  refine returns_and_shaped (C := Tryz.checked) (X := (fun w _ => laidMetH Tryz.prog Rows.fnExactParseSTGRow.laid w)) (fun _ _ _ hh h => h.of_heap hh) own started (by kernel_rfl) Tryz.func3
    (ChangeSpec.witness_shaped (enc := enc) (C := Tryz.checked) (os := os) (X := (fun w _ => laidMetH Tryz.prog Rows.fnExactParseSTGRow.laid w)) false (World.laidAll Tryz.prog os Rows.fnExactParseSTGRow.laid) #[.string ⟨#[]⟩] 8 (World.laidAll_os _ _ _)
      (World.shaped_of_ZipB (by kernel_rfl) (by kernel_rfl)) (by kernel_rfl) (by kernel_rfl) (by kernel_rfl)
      (by rw [MakeChecks.laidMetH_plain _ _ _ (by kernel_rfl)]; exact laidMet_laidAll _ (by kernel_rfl) (by kernel_rfl))) ?_
  intro W base args ds gs before hval0 hW hcnd hsh hL _
  have hval : ∀ (j : Nat) t v, Tryz.f3.params[j]? = some t → args[j]? = some v → Value.okWide Tryz.prog W .any base t v := hval0
  have hW' := hW
  have hlt := fun p hp => DataW.Whole.lt hW p hp
  obtain ⟨p, q, hA0, hV, rfl, hfz, hnd⟩ := hW
  have hA : DataW.TrodAll enc Tryz.prog W 0 (fun _ => true) true Tryz.f3.params.toList args.toList ds p := hA0
  have hA1 := hA
  rw [Tryz.params3] at hA hval
  obtain ⟨v0, vs0, d0, ds0, p0, q0, hargs, rfl, _, h0, r0⟩ := trodAll_cons hA
  obtain ⟨rfl, rfl, _⟩ := trodAll_nil r0
  obtain rfl : args = #[v0] := by cases args; simp_all
  have hK := kw_var hL
  obtain ⟨rfl, rfl⟩ := kw_open hK hV
  obtain ⟨x0, rfl, hx0⟩ := open_str Tryz.underlying9 (hval 0 9 v0 rfl rfl) h0
  clear hA0 hval0
  refine (walk W (xw_of hL hsh) x0 hx0).mono fun e W' ⟨he, hg⟩ => ?_
  subst he
  refine ⟨_, rfl, post_of_below (pa := p) (pv := _) hW' (fun _ _ _ => (trodAll_cons_mk (shut_bool Tryz.underlying4 _) trodAll_mk0)) (fun sp hsp => ?_) (fun sp _ => kw_again (kw_later hg hK)) rfl hg (ok_one (by kernel_rfl) rfl (okWide_bool_mk Tryz.underlying4 _))⟩
  exact trodAll_below (by kernel_rfl) hg (of_decide_eq_true (by kernel_rfl)) hA1 (fun x hx => hlt x (List.mem_append_left _ hx)) (fun x hx => hsp x (List.mem_append_left _ hx))

theorem part9 : (Rows.fnExactParseSTGRow.inPlace == Tryz.checked.prog.inPlace 3) = true := by kernel_rfl
theorem part10 : (Rows.fnExactParseSTGRow.unfollowed == Tryz.checked.prog.unfollowed 3) = true := by kernel_rfl
theorem part11 : (Rows.fnExactParseSTGRow.recurses == Tryz.checked.prog.recurses 3) = true := by kernel_rfl
theorem part12 : (Rows.fnExactParseSTGRow.named == Tryz.checked.prog.varsNamed 3) = true := by kernel_rfl
theorem named : Tryz.checked.prog.funcNamed Rows.fnExactParseSTGRow.func = some 3 := by kernel_rfl
theorem closed : joinedFacts Tryz.checked.prog 3 Tryz.f3 Rows.fnExactParseSTGSpec Rows.fnExactParseSTGRow = true := by
  unfold joinedFacts
  exact (and_tt (and_tt (and_tt (and_tt (and_tt (and_tt (and_tt (and_tt (and_tt (and_tt (and_tt (and_tt (and_tt (and_tt (and_tt (and_tt (and_tt (and_tt (and_tt (and_tt (and_tt (and_tt (and_tt (and_tt (and_tt (and_tt (and_tt (and_tt (and_tt (and_tt (and_tt (by kernel_rfl) glob1) glob2) (by kernel_rfl)) (by kernel_rfl)) (by kernel_rfl)) glob6) (by kernel_rfl)) glob8) part9) part10) part11) part12) (by kernel_rfl)) (by kernel_rfl)) (by kernel_rfl)) (by kernel_rfl)) (by kernel_rfl)) (by kernel_rfl)) (by kernel_rfl)) (by kernel_rfl)) (by kernel_rfl)) glob22) (by kernel_rfl)) glob24) glob25) glob26) glob27) (by kernel_rfl)) (by kernel_rfl)) (by kernel_rfl)) (by kernel_rfl))

theorem over : Rows.fnExactParseSTGRow.holds Tryz.pinned (OpenSpec.ofChange Rows.fnExactParseSTGSpec) :=
  OpenClaim.holds_of_wide 3 Tryz.f3 rfl rfl rfl rfl rfl rfl rfl ⟨rfl, rfl, rfl, rfl, rfl⟩ rfl rfl rfl rfl rfl named Tryz.func3 closed
    (of_decide_eq_true (by kernel_rfl)) (by unfold Func.isWrapper; first | (rw [if_pos (by decide +kernel)]; kernel_rfl) | (rw [if_neg (by decide +kernel)]; exact ⟨rfl, rfl⟩))
    (fun os started H enc _ => lifted os started H enc)

theorem proved : Rows.FnExactParseSTGCardSaid :=
  Claim7.holds_tied_plain_at .later [] [.data, .data, .data, .data, .sentinel, .sentinel, .data, .pinned] true (true, "115d73782e2a9429333288601af4411ce3bbef9e80de1c5359d201e19160d320") true
    over (fun _ h => by cases h) (by kernel_rfl) (fun _ h => by cases h) fnExactParseSTG_row_tie rfl ⟨rfl, rfl⟩ (by kernel_rfl) rfl
    (fun f fn hf hfn => by
      obtain rfl : f = 3 := (Option.some.inj (named.symm.trans hf)).symm
      obtain rfl : fn = Tryz.f3 := (Option.some.inj (Tryz.func3.symm.trans hfn)).symm
      exact ⟨by kernel_rfl, fun j t ht => by
        rw [Tryz.params3] at ht
        rcases j with _ | j
        · obtain rfl : t = 9 := by simpa using ht.symm
          exact (show Tryz.prog.wantsStandIn 9 = false by kernel_rfl)
        · simp at ht⟩)
    (by kernel_rfl)
#print axioms proved
end Go.Proofs.YtcpjhpjlcgcigaaGreatDoor.fnExactParseSTG
