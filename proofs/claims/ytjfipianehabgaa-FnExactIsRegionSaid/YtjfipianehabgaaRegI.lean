/- Regions: what the program's function hands back. No condition. -/
import Derived.Test.YtjfipianehabgaaRegP
import Derived.Test.YtjfipianehabgaaMap
import Derived.Test.YtjfipianehabgaaIx
set_option linter.unusedSimpArgs false
set_option linter.unusedVariables false
set_option maxHeartbeats 2000000
namespace Go.Proofs.Ytjfipianehabgaa
open Go.ChangeShapes Go.WideShapes Go.ChangeAt Go.RowKit

theorem labLaw : Go.WideMaps.KeyLaw Try.prog 142 := Go.deep_law_laid (by kernel_rfl) (m := 100) (by decide) (by decide +kernel) (by kernel_rfl) (by kernel_rfl)
def kvL (x : Lab) : List Value := [.int .i64 x.sig, .bool x.up]
theorem kvL_key (x : Lab) (h : -9223372036854775808 ≤ x.sig ∧ x.sig ≤ 9223372036854775807) : ∃ kl, keyOf Try.prog 142 (.agg (kvL x).toArray) = some kl := by
  have hs : Try.prog.types.size = (Try.prog.types.size - 2) + 2 := by kernel_rfl
  have c2 : Try.prog.cellsOf 142 = 2 := by kernel_rfl
  have ci : Try.prog.cellsOf 3 = 1 := by kernel_rfl
  have cb : Try.prog.cellsOf 4 = 1 := by kernel_rfl
  have hw : (Lit.int .i64 x.sig).wf = true := by
    have h1 : IntKind.i64.min = -9223372036854775808 := by decide
    have h2 : IntKind.i64.max = 9223372036854775807 := by decide
    simp only [Lit.wf, h1, h2, Bool.and_eq_true, decide_eq_true_eq]; exact h
  have hf : (Value.agg (kvL x).toArray).formed Try.prog 142 = true := by
    simp [Value.formed, kvL, c2, Try.underlying142]
  unfold keyOf
  simp only [Try.underlying142]
  rw [hf, show Try.prog.keyType 142 = true from by kernel_rfl]
  rw [hs]
  simp only [Bool.and_true, if_true, Program.keyLits, Try.underlying142]
  simp [kvL, c2, ci, cb, hw, Value.cells, Try.underlying3, Try.underlying4]
theorem enters_f (set : List Int) (a : ArcD) : Fn Try.prog 103 [.agg (dArcD a), .sh 1 (ints set)] (.lit (.bool (!decide (a.src ∈ set) && decide (a.dst ∈ set)))) [] := by
  refine Fn_of Try.func103 rfl (by kernel_rfl) rfl rfl ?_
  intro w0 A hin
  repeat' (first | refine goZ ?_ | refine R_callZ rfl (Contains_Int_f _ _) rfl rfl rfl ?_ | refine R_callvZ rfl (Contains_Int_f _ _) rfl rfl rfl rfl ?_ | refine D_callZ rfl (Contains_Int_f _ _) rfl rfl rfl ?_ | ((first | refine R_cond rfl (fun hq => ?_) fun hq => ?_ | refine R_guardT rfl rfl rfl (fun hq => ?_) fun hq => ?_ | refine R_guardF rfl rfl rfl (fun hq => ?_) fun hq => ?_ | refine D_guardT rfl rfl rfl (fun hq => ?_) fun hq => ?_ | refine D_guardF rfl rfl rfl (fun hq => ?_) fun hq => ?_) <;> (try rw [hq]) <;> first | have hp := of_decide_eq_true hq | have hp := of_decide_eq_false hq | have hp := of_decide_eq_false (not_t hq) | have hp := of_decide_eq_true (not_f hq) | have hp := hq))
  all_goals exact ret_bool' rfl (by simp_all)
theorem leaves_f (set : List Int) (a : ArcD) : Fn Try.prog 104 [.agg (dArcD a), .sh 1 (ints set)] (.lit (.bool (decide (a.src ∈ set) && !decide (a.dst ∈ set)))) [] := by
  refine Fn_of Try.func104 rfl (by kernel_rfl) rfl rfl ?_
  intro w0 A hin
  repeat' (first | refine goZ ?_ | refine R_callZ rfl (Contains_Int_f _ _) rfl rfl rfl ?_ | refine R_callvZ rfl (Contains_Int_f _ _) rfl rfl rfl rfl ?_ | refine D_callZ rfl (Contains_Int_f _ _) rfl rfl rfl ?_ | ((first | refine R_cond rfl (fun hq => ?_) fun hq => ?_ | refine R_guardT rfl rfl rfl (fun hq => ?_) fun hq => ?_ | refine R_guardF rfl rfl rfl (fun hq => ?_) fun hq => ?_ | refine D_guardT rfl rfl rfl (fun hq => ?_) fun hq => ?_ | refine D_guardF rfl rfl rfl (fun hq => ?_) fun hq => ?_) <;> (try rw [hq]) <;> first | have hp := of_decide_eq_true hq | have hp := of_decide_eq_false hq | have hp := of_decide_eq_false (not_t hq) | have hp := of_decide_eq_true (not_f hq) | have hp := hq))
  all_goals exact ret_bool' rfl (by simp_all)
theorem labelOfArcQ_f (a : ArcD) : Fn Try.prog 105 [.agg (dArcD a)] (.agg (dLab (labQ a))) [] := by
  refine Fn_ofC tabOk Try.func105 rfl (by kernel_rfl) rfl rfl ?_
  intro w0 A hin
  repeat' (first | refine goZ ?_ | ((first | refine R_cond rfl (fun hq => ?_) fun hq => ?_ | refine R_guardT rfl rfl rfl (fun hq => ?_) fun hq => ?_ | refine R_guardF rfl rfl rfl (fun hq => ?_) fun hq => ?_ | refine D_guardT rfl rfl rfl (fun hq => ?_) fun hq => ?_ | refine D_guardF rfl rfl rfl (fun hq => ?_) fun hq => ?_) <;> (try rw [hq]) <;> first | have hp := of_decide_eq_true hq | have hp := of_decide_eq_false hq | have hp := of_decide_eq_false (not_t hq) | have hp := of_decide_eq_true (not_f hq) | have hp := hq))
  first | exact .n ⟨_, [], rfl, ⟨rfl, rfl, trivial⟩, trivial, List.nodup_nil⟩ | exact .r ⟨_, [], rfl, ⟨rfl, rfl, trivial⟩, trivial, List.nodup_nil⟩

noncomputable def kOf (x : Lab) : Lit := (keyOf Try.prog 142 (.agg (kvL x).toArray)).getD (.bool false)
set_option maxRecDepth 100000 in
theorem kOf_key {x : Lab} (h : -9223372036854775808 ≤ x.sig ∧ x.sig ≤ 9223372036854775807) : keyOf Try.prog 142 (.agg (kvL x).toArray) = some (kOf x) := by
  obtain ⟨kl, e⟩ := kvL_key x h
  simp [kOf, e]
set_option maxRecDepth 100000 in
theorem kOf_inj {x y : Lab} (hx : -9223372036854775808 ≤ x.sig ∧ x.sig ≤ 9223372036854775807) (hy : -9223372036854775808 ≤ y.sig ∧ y.sig ≤ 9223372036854775807) (h : kOf x = kOf y) : x = y := by
  have h1 := labLaw.inj (kOf_key hx) (by rw [h]; exact kOf_key hy)
  obtain ⟨a, b⟩ := x; obtain ⟨c, d⟩ := y
  simpa [kvL] using h1
set_option maxRecDepth 100000 in
theorem kOf_lit {x : Lab} (hx : -9223372036854775808 ≤ x.sig ∧ x.sig ≤ 9223372036854775807) : WideAt.IsKeyLit (kOf x) := by
  obtain ⟨s, e⟩ := labLaw.str (kOf_key hx)
  rw [e]; trivial
def MapOk (l : List ArcD) (set : List Int) (i : Nat) (Dm : DataW Unit) : Prop := Go.Maps.IsMap Dm ∧ ∀ x : Lab, (-9223372036854775808 ≤ x.sig ∧ x.sig ≤ 9223372036854775807) → ∀ zd, Dm.atKey (kOf x) zd = match lastK l set x i with | some k => .lit (.int .i64 k) | none => zd
set_option maxRecDepth 100000 in
theorem MapOk.step {l : List ArcD} {set : List Int} {i : Nat} {Dm : DataW Unit} (h : MapOk l set i Dm) (hr : -9223372036854775808 ≤ (labQ (nth l i)).sig ∧ (labQ (nth l i)).sig ≤ 9223372036854775807) : MapOk l set (i + 1) (Dm.put (kOf (labQ (nth l i))) (.lit (.int .i64 (crI set (nth l i))))) := by
  refine ⟨h.1.put _ _, fun x hx zd => ?_⟩
  by_cases e : labQ (nth l i) = x
  · subst e
    rw [Go.Maps.atKey_put_same h.1 (kOf_lit hr)]
    simp [lastK, lastJ]
  · rw [Go.Maps.atKey_put_other (fun e2 => e (kOf_inj hr hx e2.symm)), h.2 x hx zd]
    simp [lastK, lastJ, e]
theorem crI_le (set : List Int) (a : ArcD) : 0 ≤ crI set a ∧ crI set a ≤ 2 := by unfold crI; split; omega; split <;> omega

set_option maxRecDepth 100000 in
set_option maxHeartbeats 1600000 in
theorem IsRegion_f (c : SGraph) (set : List Int) : Fn Try.prog 40 [.agg (dSGraph c), .sh 1 (ints set)] (.tup [.lit (.bool (regV c set)), .lit (.bool (setQ c set))]) [] := by
  refine Fn_of Try.func40 rfl (by kernel_rfl) rfl rfl ?_
  intro w0 A hin
  have hV := isStateSet_f c set
  cases hs : setQ c set <;> rw [hs] at hV
  · repeat' (first | refine goZ ?_ | refine R_callZ rfl (hV) rfl rfl rfl ?_ | refine R_callvZ rfl (hV) rfl rfl rfl rfl ?_ | refine D_callZ rfl (hV) rfl rfl rfl ?_ | ((first | refine R_cond rfl (fun hq => ?_) fun hq => ?_ | refine R_guardT rfl rfl rfl (fun hq => ?_) fun hq => ?_ | refine R_guardF rfl rfl rfl (fun hq => ?_) fun hq => ?_ | refine D_guardT rfl rfl rfl (fun hq => ?_) fun hq => ?_ | refine D_guardF rfl rfl rfl (fun hq => ?_) fun hq => ?_) <;> (try rw [hq]) <;> first | have hp := of_decide_eq_true hq | have hp := of_decide_eq_false hq | have hp := of_decide_eq_false (not_t hq) | have hp := of_decide_eq_true (not_f hq) | have hp := hq))
    exact ret_lit2 rfl (by rw [regV, hs]; rfl) rfl
  have hg : goodSG c = true := by simp only [setQ, Bool.and_eq_true] at hs; exact hs.1
  have hlg := goodSG_len hg
  have hza := len_dArcD c.arcs
  have hsig : ∀ a ∈ c.arcs, -1 ≤ a.sig ∧ a.sig ≤ 1000 := by
    intro a ha
    have h := hg
    simp only [goodSG, sgB, sgA, sigsB, Bool.and_eq_true, decide_eq_true_eq] at h
    have h1 := List.all_eq_true.1 h.1.2.2 a ha
    simp only [arcB, labB, Bool.and_eq_true, Bool.or_eq_true, decide_eq_true_eq] at h1
    omega
  repeat' (first | refine goZ ?_ | refine R_callZ rfl (hV) rfl rfl rfl ?_ | refine R_callvZ rfl (hV) rfl rfl rfl rfl ?_ | refine R_makeMap 142 3 rfl fun b => ?_ | refine D_callZ rfl (hV) rfl rfl rfl ?_ | ((first | refine R_cond rfl (fun hq => ?_) fun hq => ?_ | refine R_guardT rfl rfl rfl (fun hq => ?_) fun hq => ?_ | refine R_guardF rfl rfl rfl (fun hq => ?_) fun hq => ?_ | refine D_guardT rfl rfl rfl (fun hq => ?_) fun hq => ?_ | refine D_guardF rfl rfl rfl (fun hq => ?_) fun hq => ?_) <;> (try rw [hq]) <;> first | have hp := of_decide_eq_true hq | have hp := of_decide_eq_false hq | have hp := of_decide_eq_false (not_t hq) | have hp := of_decide_eq_true (not_f hq) | have hp := hq))
  refine W_loop (fun x : Nat × DataW Unit => ⟨_, [(1, .sh 1 (ints set)), (2, .ptr 0 0), (6, .val (.map (some b))), (19, .sh 4 (c.arcs.map dArcD)), (20, .lit (.int .i64 c.arcs.length)), (21, .lit (.int .i64 x.1))], [.cells 67 (dSGraph c), .cust (MapR Try.prog 142 3 b x.1 x.2)]⟩) (fun x => x.1 ≤ c.arcs.length ∧ (∀ i', i' < x.1 → ∀ j, j < i' → crBad c.arcs set i' j = false) ∧ MapOk c.arcs set x.1 x.2) (fun x => c.arcs.length - x.1) (0, .map []) ⟨Nat.zero_le _, fun i' h => by simp at h, Go.Maps.isMap_empty, fun x _ zd => by simp [lastK, lastJ]; rfl⟩ (weakZ []) ?_
  rintro ⟨i, Dm⟩ ⟨hi, hI, hM⟩
  dsimp only at hi hI hM ⊢
  have hsi : i < c.arcs.length → -9223372036854775808 ≤ (labQ (nth c.arcs i)).sig ∧ (labQ (nth c.arcs i)).sig ≤ 9223372036854775807 := fun h => by
    have := hsig _ (nth_mem h); show _ ≤ (nth c.arcs i).sig ∧ (nth c.arcs i).sig ≤ _; omega
  have hfr : ∀ k, lastK c.arcs set (labQ (nth c.arcs i)) i = some k → -9223372036854775808 ≤ k ∧ k ≤ 9223372036854775807 := fun k hk => by
    unfold lastK at hk
    cases hl : lastJ c.arcs (labQ (nth c.arcs i)) i with
    | none => rw [hl] at hk; simp at hk
    | some m => rw [hl] at hk; simp only [Option.map_some, Option.some.injEq] at hk; have := crI_le set (nth c.arcs m); omega
  repeat' (first | refine goZ ?_ | refine R_callZ rfl (enters_f _ _) rfl rfl rfl ?_ | refine R_callZ rfl (leaves_f _ _) rfl rfl rfl ?_ | refine R_callZ rfl (labelOfArcQ_f _) rfl rfl rfl ?_ | refine R_callvZ rfl (enters_f _ _) rfl rfl rfl rfl ?_ | refine R_callvZ rfl (leaves_f _ _) rfl rfl rfl rfl ?_ | refine R_callvZ rfl (labelOfArcQ_f _) rfl rfl rfl rfl ?_ | refine R_mapLook (i := 1) (us := kvL (labQ (nth c.arcs i))) rfl rfl rfl labLaw (Try.underlying139) Try.underlying3 (fun _ => by kernel_rfl) (kOf_key (hsi (by omega))) (lastK c.arcs set (labQ (nth c.arcs i)) i) (hM.2 _ (hsi (by omega))) hfr rfl ?_ | refine R_mapStore (i := 1) (us := kvL (labQ (nth c.arcs i))) rfl rfl rfl rfl labLaw (Try.underlying139) Try.underlying3 (kOf_key (hsi (by omega))) (by unfold maxLen; omega) (by decide) rfl ?_ | refine D_callZ rfl (enters_f _ _) rfl rfl rfl ?_ | refine D_callZ rfl (leaves_f _ _) rfl rfl rfl ?_ | refine D_callZ rfl (labelOfArcQ_f _) rfl rfl rfl ?_ | ((first | refine R_cond rfl (fun hq => ?_) fun hq => ?_ | refine R_guardT rfl rfl rfl (fun hq => ?_) fun hq => ?_ | refine R_guardF rfl rfl rfl (fun hq => ?_) fun hq => ?_ | refine D_guardT rfl rfl rfl (fun hq => ?_) fun hq => ?_ | refine D_guardF rfl rfl rfl (fun hq => ?_) fun hq => ?_) <;> (try rw [hq]) <;> first | have hp := of_decide_eq_true hq | have hp := of_decide_eq_false hq | have hp := of_decide_eq_false (not_t hq) | have hp := of_decide_eq_true (not_f hq) | have hp := hq))
  all_goals first
    | (refine ret_lit2 rfl ?_ rfl
       rw [regV, hs, Bool.true_and, regOk, decide_eq_true]
       exact fun i' h => hI i' (by omega))
    | (have hc : crI set (nth c.arcs i) = 1 := by clear hfr hsi hM hsig hI hlg hin hV; unfold crI; simp_all
       refine ret_lit2 rfl ?_ rfl
       obtain ⟨k, hk⟩ := Option.isSome_iff_exists.1 (show (lastK c.arcs set (labQ (nth c.arcs i)) i).isSome = true by assumption)
       have hkg : (lastK c.arcs set (labQ (nth c.arcs i)) i).getD 0 = k := by rw [hk]; rfl
       obtain ⟨j, hj, hb⟩ := (reg_step hI).2 ⟨by assumption, k, hk, by rw [hc, ← hkg]; assumption⟩
       rw [regV, hs, Bool.true_and, regOk_no (by omega) hj hb])
    | (have hc : crI set (nth c.arcs i) = 1 := by clear hfr hsi hM hsig hI hlg hin hV; unfold crI; simp_all
       have hno : ∀ j, j < i → crBad c.arcs set i j = false := by
         intro j hj
         refine Bool.eq_false_iff.2 fun hbad => ?_
         obtain ⟨h2, k, h3, h4⟩ := (reg_step hI).1 ⟨j, hj, hbad⟩
         have hkg : (lastK c.arcs set (labQ (nth c.arcs i)) i).getD 0 = k := by rw [h3]; rfl
         have hsome : (lastK c.arcs set (labQ (nth c.arcs i)) i).isSome = true := by rw [h3]; rfl
         first
           | exact absurd h2 (by assumption)
           | exact h4 (by rw [hc, ← hkg]; assumption)
           | exact absurd hsome (by rw [Bool.not_eq_true]; assumption)
       refine ⟨(i + 1, Dm.put (kOf (labQ (nth c.arcs i))) (.lit (.int .i64 (crI set (nth c.arcs i))))), ⟨by simp only; omega, fun i' h1 j hj => ?_, hM.step (hsi (by omega))⟩, by simp only; omega, ?_⟩
       · by_cases e : i' = i
         · subst e; exact hno j hj
         · exact hI i' (by simp only at h1; omega) j hj
       · simp only [hc]; exact weakZ _)
    | (have hc : crI set (nth c.arcs i) = 2 := by clear hfr hsi hM hsig hI hlg hin hV; unfold crI; simp_all
       refine ret_lit2 rfl ?_ rfl
       obtain ⟨k, hk⟩ := Option.isSome_iff_exists.1 (show (lastK c.arcs set (labQ (nth c.arcs i)) i).isSome = true by assumption)
       have hkg : (lastK c.arcs set (labQ (nth c.arcs i)) i).getD 0 = k := by rw [hk]; rfl
       obtain ⟨j, hj, hb⟩ := (reg_step hI).2 ⟨by assumption, k, hk, by rw [hc, ← hkg]; assumption⟩
       rw [regV, hs, Bool.true_and, regOk_no (by omega) hj hb])
    | (have hc : crI set (nth c.arcs i) = 2 := by clear hfr hsi hM hsig hI hlg hin hV; unfold crI; simp_all
       have hno : ∀ j, j < i → crBad c.arcs set i j = false := by
         intro j hj
         refine Bool.eq_false_iff.2 fun hbad => ?_
         obtain ⟨h2, k, h3, h4⟩ := (reg_step hI).1 ⟨j, hj, hbad⟩
         have hkg : (lastK c.arcs set (labQ (nth c.arcs i)) i).getD 0 = k := by rw [h3]; rfl
         have hsome : (lastK c.arcs set (labQ (nth c.arcs i)) i).isSome = true := by rw [h3]; rfl
         first
           | exact absurd h2 (by assumption)
           | exact h4 (by rw [hc, ← hkg]; assumption)
           | exact absurd hsome (by rw [Bool.not_eq_true]; assumption)
       refine ⟨(i + 1, Dm.put (kOf (labQ (nth c.arcs i))) (.lit (.int .i64 (crI set (nth c.arcs i))))), ⟨by simp only; omega, fun i' h1 j hj => ?_, hM.step (hsi (by omega))⟩, by simp only; omega, ?_⟩
       · by_cases e : i' = i
         · subst e; exact hno j hj
         · exact hI i' (by simp only at h1; omega) j hj
       · simp only [hc]; exact weakZ _)
    | (have hc : crI set (nth c.arcs i) = 0 := by unfold crI; rw [if_neg (by rw [Bool.not_eq_true]; assumption), if_neg (by rw [Bool.not_eq_true]; assumption)]
       refine ret_lit2 rfl ?_ rfl
       obtain ⟨k, hk⟩ := Option.isSome_iff_exists.1 (show (lastK c.arcs set (labQ (nth c.arcs i)) i).isSome = true by assumption)
       have hkg : (lastK c.arcs set (labQ (nth c.arcs i)) i).getD 0 = k := by rw [hk]; rfl
       obtain ⟨j, hj, hb⟩ := (reg_step hI).2 ⟨by assumption, k, hk, by rw [hc, ← hkg]; assumption⟩
       rw [regV, hs, Bool.true_and, regOk_no (by omega) hj hb])
    | (have hc : crI set (nth c.arcs i) = 0 := by unfold crI; rw [if_neg (by rw [Bool.not_eq_true]; assumption), if_neg (by rw [Bool.not_eq_true]; assumption)]
       have hno : ∀ j, j < i → crBad c.arcs set i j = false := by
         intro j hj
         refine Bool.eq_false_iff.2 fun hbad => ?_
         obtain ⟨h2, k, h3, h4⟩ := (reg_step hI).1 ⟨j, hj, hbad⟩
         have hkg : (lastK c.arcs set (labQ (nth c.arcs i)) i).getD 0 = k := by rw [h3]; rfl
         have hsome : (lastK c.arcs set (labQ (nth c.arcs i)) i).isSome = true := by rw [h3]; rfl
         first
           | exact absurd h2 (by assumption)
           | exact h4 (by rw [hc, ← hkg]; assumption)
           | exact absurd hsome (by rw [Bool.not_eq_true]; assumption)
       refine ⟨(i + 1, Dm.put (kOf (labQ (nth c.arcs i))) (.lit (.int .i64 (crI set (nth c.arcs i))))), ⟨by simp only; omega, fun i' h1 j hj => ?_, hM.step (hsi (by omega))⟩, by simp only; omega, ?_⟩
       · by_cases e : i' = i
         · subst e; exact hno j hj
         · exact hI i' (by simp only at h1; omega) j hj
       · simp only [hc]; exact weakZ _)
end Go.Proofs.Ytjfipianehabgaa
