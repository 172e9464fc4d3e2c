/- Persistency violations: what the reference's and the program's functions hand back. No condition. Persistency violations: what the reference's and the program's functions hand back. No condition. -/
import Derived.Test.YtcmedjlpaondjaaDis
import Derived.Test.YtcmedjlpaondjaaTag
import Derived.Test.YtcmedjlpaondjaaPairs
set_option linter.unusedSimpArgs false
set_option linter.unusedVariables false
set_option maxHeartbeats 2000000
namespace Go.Proofs.Ytcmedjlpaondjaa
open Go.ChangeShapes Go.WideShapes Go.ChangeAt Go.RowKit

/-! ### The plain part -/
theorem hasA_exc (l : List ArcD) (k sig : Int) : (hasA l k sig false || hasA l k sig true) = l.any (excP k sig) := by
  rw [Bool.eq_iff_iff]
  simp only [hasA, isA, excP, Bool.or_eq_true, List.any_eq_true, Bool.and_eq_true, decide_eq_true_eq]
  constructor
  · rintro (⟨a, h1, h2, h3, h4⟩ | ⟨a, h1, h2, h3, h4⟩)
    · exact ⟨a, h1, h2, h3⟩
    · exact ⟨a, h1, h2, h3⟩
  · rintro ⟨a, h1, h2, h3⟩
    cases hu : a.up
    · exact Or.inl ⟨a, h1, h2, h3, by rw [hu]; rfl⟩
    · exact Or.inr ⟨a, h1, h2, h3, by rw [hu]; rfl⟩
theorem mask_exc {l : List ArcD} {n : Nat} {s sig : Int} (hl : sigsLe l) (hs : 0 ≤ s ∧ s < n) (hg : 0 ≤ sig ∧ sig ≤ 7) :
    decide (andI (nth (mskL l n) s.toNat / 2 ^ (2 * sig).toNat) 3 = 0) = !l.any (excP s sig) := by
  obtain ⟨g, rfl⟩ := Int.eq_ofNat_of_zero_le hg.1
  have h1 := mskN_lt s hl
  rw [mskL_nth (k := s.toNat) (by omega), Int.toNat_of_nonneg hs.1, show (2 * (g : Int)).toNat = 2 * g by omega]
  have e : ((mskN l s : Nat) : Int) / 2 ^ (2 * g) = ((mskN l s / 2 ^ (2 * g) : Nat) : Int) := by simp
  have h3 : mskN l s / 2 ^ (2 * g) < 65536 := Nat.lt_of_le_of_lt (Nat.div_le_self _ _) h1
  rw [e, andI_three _ h3]
  have key := bits_of (x := mskN l s) (sig := g)
  rw [mskN_bit, mskN_bit] at key
  rw [Bool.eq_iff_iff, decide_eq_true_eq, Bool.not_eq_true', ← hasA_exc, Bool.or_eq_false_iff, ← key]
  omega

/-- The indices of the arcs that leave a state. -/
def lvP (c : SGraph) (k : Int) (i : Nat) : Bool := decide ((nth c.arcs i).src = k)
def lvI (c : SGraph) (n i : Nat) : List (List Int) := (List.range n).map fun k : Nat => pickN (lvP c k) i
def lvM (c : SGraph) (n i : Nat) : List (List (List D)) := (lvI c n i).map ints
theorem lvI_len (c : SGraph) (n i : Nat) : (lvI c n i).length = n := by simp [lvI]
theorem lvI_nth {c : SGraph} {n i k : Nat} (h : k < n) : nth (lvI c n i) k = pickN (lvP c k) i := by
  rw [nth_get (by rw [lvI_len]; exact h)]; simp [lvI]
theorem lvM_len (c : SGraph) (n i : Nat) : (lvM c n i).length = n := by simp [lvM, lvI]
theorem lvM_nth {c : SGraph} {n i k : Nat} (h : k < n) : nth (lvM c n i) k = ints (pickN (lvP c k) i) := by
  rw [nth_get (by rw [lvM_len]; exact h)]; simp [lvM, lvI]
theorem lvM_zero (c : SGraph) (n : Nat) : lvM c n 0 = List.replicate n [] := by
  refine List.ext_getElem (by simp [lvM, lvI]) fun i h1 h2 => ?_
  simp [lvM, lvI, pickN_zero, ints]
theorem lvM_snoc {c : SGraph} {n i u : Nat} (hu : (u : Int) = (nth c.arcs i).src) (h : u < n) : lvM c n (i + 1) = (lvM c n i).set u (nth (lvM c n i) u ++ [[.lit (.int .i64 i)]]) := by
  rw [lvM_nth h]
  refine List.ext_getElem (by simp [lvM, lvI]) fun j h1 h2 => ?_
  have hj : j < n := by simpa [lvM, lvI] using h1
  rw [List.getElem_set]
  by_cases e : u = j
  · subst e
    have hp : lvP c u i = true := by simp [lvP, hu]
    simp [lvM, lvI, pickN_yes hp, ints_snoc]
  · have hp : lvP c j i = false := by simp [lvP]; omega
    simp [lvM, lvI, pickN_no hp, e]
theorem lvM_dII (c : SGraph) (n i : Nat) : (lvM c n i).map (fun r => [D.sh 1 r]) = (lvI c n i).map dII := by simp [lvM, dII]
/-- A signal's number, not an input's; a silent one's. -/
def outI (c : SGraph) (sig : Int) : Bool := decide (sig < 0) || outP c sig.toNat
def vioQ (c : SGraph) (sig : Int) (i : Nat) : Bool := !decide ((nth c.arcs i).sig = sig) && (!(c.arcs.any (excP (nth c.arcs i).dst sig)) && (outI c sig || outI c (nth c.arcs i).sig))
def vioP (c : SGraph) (k sig : Int) (i : Nat) : Bool := lvP c k i && vioQ c sig i
def mkV (k sig : Int) (i : Int) : PViol := ⟨k, sig, i⟩
def vioR (c : SGraph) (k sig : Int) (m : Nat) : List PViol := (pickN (vioP c k sig) m).map (mkV k sig)
def vioE (c : SGraph) (k sig : Int) : List PViol := if c.arcs.any (excP k sig) then vioR c k sig c.arcs.length else []
def vioS (c : SGraph) (k : Int) : Nat → List PViol
  | 0 => []
  | j + 1 => vioS c k j ++ vioE c k j
def vioA (c : SGraph) : Nat → List PViol
  | 0 => []
  | k + 1 => vioA c k ++ vioS c k c.signals.length
def vioL (c : SGraph) : List PViol := vioA c c.codes.length
noncomputable def vioZ (c : SGraph) : List PViol := if goodSG c then vioL c else []
theorem vioR_len (c : SGraph) (k sig : Int) (m : Nat) : (vioR c k sig m).length ≤ m := by
  have := pickN_len (vioP c k sig) m; simpa [vioR] using this
theorem vioE_len (c : SGraph) (k sig : Int) : (vioE c k sig).length ≤ c.arcs.length := by
  unfold vioE; split
  · exact vioR_len c k sig _
  · simp
theorem vioS_len (c : SGraph) (k : Int) : ∀ j, (vioS c k j).length ≤ j * c.arcs.length
  | 0 => by simp [vioS]
  | j + 1 => by
    have := vioS_len c k j; have h2 := vioE_len c k j
    rw [vioS, List.length_append, Nat.add_mul]; omega
theorem vioA_len (c : SGraph) : ∀ k, (vioA c k).length ≤ k * (c.signals.length * c.arcs.length)
  | 0 => by simp [vioA]
  | k + 1 => by
    have := vioA_len c k; have h2 := vioS_len c k c.signals.length
    rw [vioA, List.length_append, Nat.add_mul]; omega
theorem pickN_take {p : Nat → Bool} : ∀ {n : Nat} {q : Nat → Bool}, ((pickN p n).filter fun x => q x.toNat) = pickN (fun i => p i && q i) n
  | 0, _ => rfl
  | n + 1, q => by
    have ih := pickN_take (p := p) (n := n) (q := q)
    cases hp : p n
    · rw [pickN_no hp, pickN_no (by simp [hp]), ih]
    · cases hq : q n
      · rw [pickN_yes hp, pickN_no (by simp [hq]), List.filter_append, ih]; simp [hq]
      · rw [pickN_yes hp, pickN_yes (by simp [hp, hq]), List.filter_append, ih]; simp [hq]
theorem vioR_all (c : SGraph) (k sig : Int) : ((pickN (lvP c k) c.arcs.length).filter fun x => vioQ c sig x.toNat).map (mkV k sig) = vioR c k sig c.arcs.length := by
  rw [pickN_take]; rfl

theorem l6OwnI_f (c : SGraph) (sig : Int) (h : -1 ≤ sig ∧ sig < c.signals.length) : Fn Try.prog 86 [.agg (dSGraph c), .lit (.int .i64 sig)] (.lit (.bool (outI c sig))) [] := by
  refine Fn_of Try.func86 rfl (by kernel_rfl) rfl rfl ?_
  intro w0 A hin
  have hz := len_dSig c.signals
  repeat' (first | refine goZ ?_ | ((first | refine R_cond rfl (fun hq => ?_) fun hq => ?_ | refine R_guardT rfl rfl rfl (fun hq => ?_) fun hq => ?_ | refine R_guardF rfl rfl rfl (fun hq => ?_) fun hq => ?_ | refine D_guardT rfl rfl rfl (fun hq => ?_) fun hq => ?_ | refine D_guardF rfl rfl rfl (fun hq => ?_) fun hq => ?_) <;> (try rw [hq]) <;> first | have hp := of_decide_eq_true hq | have hp := of_decide_eq_false hq | have hp := of_decide_eq_false (not_t hq) | have hp := of_decide_eq_true (not_f hq) | have hp := hq))
  · exact ret_bool' rfl (by simp only [outI, outP]; rw [show decide (sig < 0) = false from decide_eq_false hp]; rfl)
  · exact ret_bool' rfl (by simp only [outI, outP]; rw [show decide (sig < 0) = true from decide_eq_true hp]; rfl)

theorem isInput_f (c : SGraph) (sig : Int) (h : -1 ≤ sig ∧ sig < c.signals.length) : Fn Try.prog 135 [.agg (dSGraph c), .lit (.int .i64 sig)] (.lit (.bool (!outI c sig))) [] := by
  refine Fn_of Try.func135 rfl (by kernel_rfl) rfl rfl ?_
  intro w0 A hin
  have hz := len_dSig c.signals
  repeat' (first | refine goZ ?_ | ((first | refine R_cond rfl (fun hq => ?_) fun hq => ?_ | refine R_guardT rfl rfl rfl (fun hq => ?_) fun hq => ?_ | refine R_guardF rfl rfl rfl (fun hq => ?_) fun hq => ?_ | refine D_guardT rfl rfl rfl (fun hq => ?_) fun hq => ?_ | refine D_guardF rfl rfl rfl (fun hq => ?_) fun hq => ?_) <;> (try rw [hq]) <;> first | have hp := of_decide_eq_true hq | have hp := of_decide_eq_false hq | have hp := of_decide_eq_false (not_t hq) | have hp := of_decide_eq_true (not_f hq) | have hp := hq))
  · exact ret_bool' rfl (by simp only [outI, outP]; rw [show decide (sig < 0) = false from decide_eq_false (by omega)]; simp)
  · exact ret_bool' rfl (by simp only [outI, outP]; rw [show decide (sig < 0) = true from decide_eq_true (by omega)]; rfl)

set_option maxHeartbeats 4000000 in
theorem nextArcs_f (c : SGraph) (hn : c.codes.length ≤ 300) (hm : c.arcs.length ≤ 4000) (hE : EndsOk c) : Fn Try.prog 134 [.agg (dSGraph c)] (.own 0) [.arr 41 1 ((lvI c c.codes.length c.arcs.length).map dII) true] := by
  refine Fn_old Try.func134 rfl (by kernel_rfl) rfl rfl ?_
  intro w0 A hin
  refine W_start ?_ (by dsimp only [argSlots, List.map_cons, List.map_nil, oldA, old1, Nat.reduceAdd, dSGraph]; done)
  refine W_weakR ?_
  have hza := len_dArcD c.arcs
  have hzc := len_strs c.codes
  repeat' (first | refine R_matMake tabOk rfl rfl rfl rfl rfl rfl rfl rfl (by omega) ?_ | refine go1 ?_ | ((first | refine R_cond rfl (fun hq => ?_) fun hq => ?_ | refine R_guardT rfl rfl rfl (fun hq => ?_) fun hq => ?_ | refine R_guardF rfl rfl rfl (fun hq => ?_) fun hq => ?_ | refine D_guardT rfl rfl rfl (fun hq => ?_) fun hq => ?_ | refine D_guardF rfl rfl rfl (fun hq => ?_) fun hq => ?_) <;> (try rw [hq]) <;> first | have hp := of_decide_eq_true hq | have hp := of_decide_eq_false hq | have hp := of_decide_eq_false (not_t hq) | have hp := of_decide_eq_true (not_f hq) | have hp := hq))
  refine W_loop (fun x : Nat × List Value => ⟨_, [(1, .ptr 0 0), (3, .own 1), (11, .old w0 A (.sh 4 (c.arcs.map dArcD))), (12, .lit (.int .i64 c.arcs.length)), (13, .lit (.int .i64 x.1))], [.cells 35 [.old w0 A (.sh 2 (c.signals.map dSig)), .old w0 A (.sh 1 (strs c.codes)), .old w0 A (.sh 4 (c.arcs.map dArcD))], .cust (MatR 41 3 1 x.2 x.2 (lvM c (strs c.codes).length x.1))]⟩) (fun x => x.1 ≤ c.arcs.length ∧ x.2.length = (strs c.codes).length) (fun x => c.arcs.length - x.1) (0, List.replicate (strs c.codes).length nilV) ⟨Nat.zero_le _, by simp⟩ (by rw [lvM_zero]; exact weakZ []) ?_
  rintro ⟨k, vs⟩ ⟨hk, hvs⟩
  dsimp only at hk hvs ⊢
  have hnth : k < c.arcs.length → (0 ≤ (nth c.arcs k).src ∧ (nth c.arcs k).src < c.codes.length) := fun h => (hE _ (List.mem_map.2 ⟨nth c.arcs k, nth_mem h, rfl⟩)).1
  have hrow : ∀ j : Nat, j < (strs c.codes).length → (nth (lvM c (strs c.codes).length k) j).length ≤ 4000 := fun j hj => by
    rw [lvM_nth hj, len_ints]
    have := pickN_len (lvP c j) k; omega
  have hap : (k : Int) < (c.arcs.length : Int) → (nth c.arcs k).src.toNat < vs.length ∧ (nth (lvM c (strs c.codes).length k) (nth c.arcs k).src.toNat).length ≤ 4000 := fun h => by have := hnth (by omega); exact ⟨by omega, hrow _ (by omega)⟩
  repeat' (first | refine goZ ?_ | refine goH ?_ | refine H_two (by exact rfl) (by exact rfl) (by exact rfl) (by exact rfl) (by exact rfl) ?_ ?_ | refine H_three (by exact rfl) (by exact rfl) (by exact rfl) (by exact rfl) (by exact rfl) (by exact rfl) (by exact rfl) ?_ ?_ ?_  | refine R_indexOld tabOk rfl rfl rfl rfl rfl (rowAt_nat (by omega)) ?_ | refine R_matAddr tabOk 1 rfl rfl rfl rfl rfl rfl (by omega) ?_ | refine R_matLoad tabOk 1 rfl rfl rfl rfl (by omega) ?_ | refine R_matAppend tabOk 1 (nth c.arcs k).src.toNat rfl rfl rfl rfl rfl rfl rfl rfl rfl rfl rfl rfl rfl (by intro r hr; simp at hr; subst hr; simp [isLit]) ⟨(hap hp).1, rfl⟩ (by have := (hap hp).2; simp; omega) (fun v' hv' => ?_) | refine R_matStore tabOk 1 rfl rfl rfl rfl hv' rfl (by omega) ?_ | ((first | refine R_cond rfl (fun hq => ?_) fun hq => ?_ | refine R_guardT rfl rfl rfl (fun hq => ?_) fun hq => ?_ | refine R_guardF rfl rfl rfl (fun hq => ?_) fun hq => ?_ | refine D_guardT rfl rfl rfl (fun hq => ?_) fun hq => ?_ | refine D_guardF rfl rfl rfl (fun hq => ?_) fun hq => ?_) <;> (try rw [hq]) <;> first | have hp := of_decide_eq_true hq | have hp := of_decide_eq_false hq | have hp := of_decide_eq_false (not_t hq) | have hp := of_decide_eq_true (not_f hq) | have hp := hq) | refine W_held mixed [(5, 0, .int .i64 (nth c.arcs k).src)] ?_)
  rotate_right
  · have ek : k = c.arcs.length := by omega
    refine ⟨_, Weak_mat 1 41 3 1 vs _ rfl rfl, ?_⟩
    rw [ek, hzc, lvM_dII]
    exact .r (ret_own rfl rfl rfl)
  all_goals
    refine ⟨(k + 1, vs.set (nth c.arcs k).src.toNat v'), ⟨by dsimp only; omega, by simpa using hvs⟩, by dsimp only; omega, ?_⟩
    have := hnth (by omega)
    dsimp only
    rw [lvM_snoc (u := (nth c.arcs k).src.toNat) (by omega) (by omega)]
    exact weakZ _

theorem sigs_in {c : SGraph} (h : goodSG c = true) : ∀ a ∈ c.arcs, -1 ≤ a.sig ∧ a.sig < c.signals.length := by
  intro a ha
  simp only [goodSG, sgB, Bool.and_eq_true] at h
  have h1 := List.all_eq_true.1 h.1.2.2 a ha
  simp only [arcB, labB, Bool.and_eq_true, Bool.or_eq_true, decide_eq_true_eq] at h1
  omega
theorem filt_snoc {l : List Int} {p : Int → Bool} {i : Nat} (h : i < l.length) : (l.take (i + 1)).filter p = (l.take i).filter p ++ (if p (nth l i) then [nth l i] else []) := by
  rw [take_nth h, List.filter_append]; congr 1
  simp [List.filter_cons]

set_option maxHeartbeats 4000000 in
theorem violations_f (c : SGraph) (hg : goodSG c = true) : Fn Try.prog 93 [.agg (dSGraph c)] (.own 0) [.arr 37 3 ((vioL c).map dPViol) true] := by
  refine Fn_old Try.func93 rfl (by kernel_rfl) rfl rfl ?_
  intro w0 A hin
  refine W_start ?_ (by dsimp only [argSlots, List.map_cons, List.map_nil, oldA, old1, Nat.reduceAdd, dSGraph]; done)
  have hza := len_dArcD c.arcs
  have hzs := len_dSig c.signals
  have hb := goodSG_len hg
  have hE := ends_ok hg
  have hS := sigs_of hg
  have hzc := len_strs c.codes
  have hml := mskL_len c.arcs c.codes.length
  have hml2 := len_ints (mskL c.arcs c.codes.length)
  have hlv := lvI_len c c.codes.length c.arcs.length
  have hlv2 : ((lvI c c.codes.length c.arcs.length).map dII).length = c.codes.length := by rw [List.length_map, hlv]
  repeat' (first | refine goZ ?_ | ((first | refine R_cond rfl (fun hq => ?_) fun hq => ?_ | refine R_guardT rfl rfl rfl (fun hq => ?_) fun hq => ?_ | refine R_guardF rfl rfl rfl (fun hq => ?_) fun hq => ?_ | refine D_guardT rfl rfl rfl (fun hq => ?_) fun hq => ?_ | refine D_guardF rfl rfl rfl (fun hq => ?_) fun hq => ?_) <;> (try rw [hq]) <;> first | have hp := of_decide_eq_true hq | have hp := of_decide_eq_false hq | have hp := of_decide_eq_false (not_t hq) | have hp := of_decide_eq_true (not_f hq) | have hp := hq))
  refine W_midS ⟨Try.f93.ntmps, [(1, .ptr 0 0), (3, .own 1), (4, .own 2), (5, .own 3)], [.cells 35 [.old w0 A (.sh 2 (c.signals.map dSig)), .old w0 A (.sh 1 (strs c.codes)), .old w0 A (.sh 4 (c.arcs.map dArcD))], .arr 37 3 [] true, .arr 3 1 (ints (mskL c.arcs c.codes.length)) true, .arr 41 1 ((lvI c c.codes.length c.arcs.length).map dII) true]⟩ ?_ ?_
  · repeat' (first | refine goZ ?_ | refine goH ?_ | refine H_two (by exact rfl) (by exact rfl) (by exact rfl) (by exact rfl) (by exact rfl) ?_ ?_ | refine H_three (by exact rfl) (by exact rfl) (by exact rfl) (by exact rfl) (by exact rfl) (by exact rfl) (by exact rfl) ?_ ?_ ?_  | refine R_callxZ rfl (labelMasks_f c (by omega) (by omega) hS hE) rfl rfl rfl rfl (by repeat' (first | exact trivial | rfl | refine And.intro ?_ ?_)) ?_ | refine R_callxZ rfl (nextArcs_f c (by omega) (by omega) hE) rfl rfl rfl rfl (by repeat' (first | exact trivial | rfl | refine And.intro ?_ ?_)) ?_ | ((first | refine R_cond rfl (fun hq => ?_) fun hq => ?_ | refine R_guardT rfl rfl rfl (fun hq => ?_) fun hq => ?_ | refine R_guardF rfl rfl rfl (fun hq => ?_) fun hq => ?_ | refine D_guardT rfl rfl rfl (fun hq => ?_) fun hq => ?_ | refine D_guardF rfl rfl rfl (fun hq => ?_) fun hq => ?_) <;> (try rw [hq]) <;> first | have hp := of_decide_eq_true hq | have hp := of_decide_eq_false hq | have hp := of_decide_eq_false (not_t hq) | have hp := of_decide_eq_true (not_f hq) | have hp := hq) | refine W_held mixed [] ?_)
    all_goals first
      | (refine midQ.n (Weak_ren [some 0, some 1, some 2, some 3] rfl rfl ?_ ?_) <;> (repeat' (first | exact trivial | rfl | refine And.intro ?_ ?_ | (simp [St.get, look, ints, strs, bools]; done))) <;> done)
      | (refine midQ.n (Weak_ren [some 0, some 2, some 1, some 3] rfl rfl ?_ ?_) <;> (repeat' (first | exact trivial | rfl | refine And.intro ?_ ?_ | (simp [St.get, look, ints, strs, bools]; done))) <;> done)
      | (refine midQ.n (Weak_ren [some 0, some 3, some 1, some 2] rfl rfl ?_ ?_) <;> (repeat' (first | exact trivial | rfl | refine And.intro ?_ ?_ | (simp [St.get, look, ints, strs, bools]; done))) <;> done)
  repeat' (first | refine goZ ?_ | ((first | refine R_cond rfl (fun hq => ?_) fun hq => ?_ | refine R_guardT rfl rfl rfl (fun hq => ?_) fun hq => ?_ | refine R_guardF rfl rfl rfl (fun hq => ?_) fun hq => ?_ | refine D_guardT rfl rfl rfl (fun hq => ?_) fun hq => ?_ | refine D_guardF rfl rfl rfl (fun hq => ?_) fun hq => ?_) <;> (try rw [hq]) <;> first | have hp := of_decide_eq_true hq | have hp := of_decide_eq_false hq | have hp := of_decide_eq_false (not_t hq) | have hp := of_decide_eq_true (not_f hq) | have hp := hq))
  refine W_loop (fun k : Nat => ⟨_, [(1, .ptr 0 0), (3, .own 1), (4, .own 2), (5, .own 3), (18, .lit (.int .i64 c.codes.length)), (19, .lit (.int .i64 k))], [.cells 35 [.old w0 A (.sh 2 (c.signals.map dSig)), .old w0 A (.sh 1 (strs c.codes)), .old w0 A (.sh 4 (c.arcs.map dArcD))], .arr 37 3 ((vioA c k).map dPViol) true, .arr 3 1 (ints (mskL c.arcs c.codes.length)) true, .arr 41 1 ((lvI c c.codes.length c.arcs.length).map dII) true]⟩) (fun k => k ≤ c.codes.length) (fun k => c.codes.length - k) 0 (Nat.zero_le _) (weakZ []) ?_
  intro k hk
  repeat' (first | refine goZ ?_ | ((first | refine R_cond rfl (fun hq => ?_) fun hq => ?_ | refine R_guardT rfl rfl rfl (fun hq => ?_) fun hq => ?_ | refine R_guardF rfl rfl rfl (fun hq => ?_) fun hq => ?_ | refine D_guardT rfl rfl rfl (fun hq => ?_) fun hq => ?_ | refine D_guardF rfl rfl rfl (fun hq => ?_) fun hq => ?_) <;> (try rw [hq]) <;> first | have hp := of_decide_eq_true hq | have hp := of_decide_eq_false hq | have hp := of_decide_eq_false (not_t hq) | have hp := of_decide_eq_true (not_f hq) | have hp := hq))
  rotate_left
  · exact ret_own rfl rfl (by rw [vioL, show k = c.codes.length by omega])
  have hkn : k < c.codes.length := by omega
  have hav := vioA_len c k
  refine W_loop (fun j : Nat => ⟨_, [(1, .ptr 0 0), (3, .own 1), (4, .own 2), (5, .own 3), (6, .lit (.int .i64 k)), (18, .lit (.int .i64 c.codes.length)), (19, .lit (.int .i64 k)), (24, .lit (.int .i64 c.signals.length)), (25, .lit (.int .i64 j))], [.cells 35 [.old w0 A (.sh 2 (c.signals.map dSig)), .old w0 A (.sh 1 (strs c.codes)), .old w0 A (.sh 4 (c.arcs.map dArcD))], .arr 37 3 ((vioA c k ++ vioS c k j).map dPViol) true, .arr 3 1 (ints (mskL c.arcs c.codes.length)) true, .arr 41 1 ((lvI c c.codes.length c.arcs.length).map dII) true]⟩) (fun j => j ≤ c.signals.length) (fun j => c.signals.length - j) 0 (Nat.zero_le _) (by rw [vioS, List.append_nil]; exact weakZ []) ?_
  intro j hj
  have hsv := vioS_len c k j
  have hmt : j < c.signals.length → _ := fun h => mask_exc (l := c.arcs) (n := c.codes.length) (s := (k : Int)) (sig := (j : Int)) hS (by omega) (by omega)
  have hL0 : nth (lvI c c.codes.length c.arcs.length) k = pickN (lvP c k) c.arcs.length := lvI_nth hkn
  have hLm : ∀ i, i < (pickN (lvP c k) c.arcs.length).length → 0 ≤ nth (pickN (lvP c k) c.arcs.length) i ∧ nth (pickN (lvP c k) c.arcs.length) i < c.arcs.length := fun i hi => by
    obtain ⟨m, h1, _, h2⟩ := pickN_mem.1 (nth_mem hi)
    omega
  have hL1 := vioR_all c k j
  have hL2 := pickN_len (lvP c k) c.arcs.length
  have hne : j < c.signals.length → decide (andI (nth (mskL c.arcs c.codes.length) k / 2 ^ (2 * (j : Int)).toNat) 3 = 0) = !c.arcs.any (excP k j) := fun h => by
    have := hmt h
    rwa [Int.toNat_natCast] at this
  repeat' (first | refine goZ ?_ | ((first | refine R_cond rfl (fun hq => ?_) fun hq => ?_ | refine R_guardT rfl rfl rfl (fun hq => ?_) fun hq => ?_ | refine R_guardF rfl rfl rfl (fun hq => ?_) fun hq => ?_ | refine D_guardT rfl rfl rfl (fun hq => ?_) fun hq => ?_ | refine D_guardF rfl rfl rfl (fun hq => ?_) fun hq => ?_) <;> (try rw [hq]) <;> first | have hp := of_decide_eq_true hq | have hp := of_decide_eq_false hq | have hp := of_decide_eq_false (not_t hq) | have hp := of_decide_eq_true (not_f hq) | have hp := hq))
  · refine ⟨j + 1, by omega, by omega, ?_⟩
    have h1 := hne (by omega)
    rw [hq] at h1
    have e : vioE c k j = [] := by rw [vioE, show c.arcs.any (excP k j) = false by simpa using h1.symm]; rfl
    rw [vioS, e, List.append_nil]
    exact weakZ _
  · have hjs : j < c.signals.length := by omega
    have h1 := hne hjs
    rw [hq] at h1
    have hex : vioE c k j = vioR c k j c.arcs.length := by rw [vioE, show c.arcs.any (excP k j) = true by simpa using h1.symm]; rfl
    rw [hL0]
    generalize hLe : pickN (lvP c k) c.arcs.length = L at *
    have hL3 := len_ints L
    refine W_loop (fun i : Nat => ⟨_, [(1, .ptr 0 0), (3, .own 1), (4, .own 2), (5, .own 3), (6, .lit (.int .i64 k)), (7, .lit (.int .i64 j)), (18, .lit (.int .i64 c.codes.length)), (19, .lit (.int .i64 k)), (24, .lit (.int .i64 c.signals.length)), (25, .lit (.int .i64 j)), (40, .sh 1 (ints L)), (41, .lit (.int .i64 (ints L).length)), (42, .lit (.int .i64 i))], [.cells 35 [.old w0 A (.sh 2 (c.signals.map dSig)), .old w0 A (.sh 1 (strs c.codes)), .old w0 A (.sh 4 (c.arcs.map dArcD))], .arr 37 3 ((vioA c k ++ (vioS c k j ++ ((L.take i).filter fun x => vioQ c j x.toNat).map (mkV k j))).map dPViol) true, .arr 3 1 (ints (mskL c.arcs c.codes.length)) true, .arr 41 1 ((lvI c c.codes.length c.arcs.length).map dII) true]⟩) (fun i => i ≤ L.length) (fun i => L.length - i) 0 (Nat.zero_le _) (by rw [List.take_zero, List.filter_nil, List.map_nil, List.append_nil]; exact weakZ []) ?_
    intro i hi
    have hLi : i < L.length → _ := fun h => hLm i h
    have hdst : i < L.length → (0 ≤ (nth c.arcs (nth L i).toNat).src ∧ (nth c.arcs (nth L i).toNat).src < c.codes.length) ∧ 0 ≤ (nth c.arcs (nth L i).toNat).dst ∧ (nth c.arcs (nth L i).toNat).dst < c.codes.length := fun h => hE _ (List.mem_map.2 ⟨nth c.arcs (nth L i).toNat, nth_mem (by have := hLi h; omega), rfl⟩)
    have hsg : i < L.length → -1 ≤ (nth c.arcs (nth L i).toNat).sig ∧ (nth c.arcs (nth L i).toNat).sig < c.signals.length := fun h => sigs_in hg _ (nth_mem (by have := hLi h; omega))
    have hfl : ((L.take i).filter fun x => vioQ c j x.toNat).length ≤ i := Nat.le_trans (List.length_filter_le _ _) (by simp; omega)
    have hms : i < L.length → _ := fun h => mask_exc (l := c.arcs) (n := c.codes.length) (s := (nth c.arcs (nth L i).toNat).dst) (sig := (j : Int)) hS (hdst h).2 (by omega)
    have hA : (vioA c k).length ≤ 9600000 := Nat.le_trans hav (Nat.le_trans (Nat.mul_le_mul (show k ≤ 300 by omega) (Nat.mul_le_mul (show c.signals.length ≤ 8 by omega) (show c.arcs.length ≤ 4000 by omega))) (by decide))
    have hB : (vioS c k j).length ≤ 32000 := Nat.le_trans hsv (Nat.le_trans (Nat.mul_le_mul (show j ≤ 8 by omega) (show c.arcs.length ≤ 4000 by omega)) (by decide))
    have hst : i < L.length → ((L.take (i + 1)).filter fun x => vioQ c j x.toNat) = ((L.take i).filter fun x => vioQ c j x.toNat) ++ (if vioQ c j (nth L i).toNat then [nth L i] else []) := fun h => filt_snoc h
    repeat' (first | refine goZ ?_ | refine R_callxZ rfl (isInput_f c j (by omega)) rfl rfl rfl rfl (by repeat' (first | exact trivial | rfl | refine And.intro ?_ ?_)) ?_ | refine R_callxZ rfl (isInput_f c (nth c.arcs (nth L i).toNat).sig (hsg (by omega))) rfl rfl rfl rfl (by repeat' (first | exact trivial | rfl | refine And.intro ?_ ?_)) ?_ | refine R_indexOld tabOk rfl rfl rfl rfl rfl (rowAt_nat (by omega)) ?_ | refine R_indexOld tabOk rfl rfl rfl rfl rfl (rowAt_int (by omega) (by omega)) ?_ | ((first | refine R_cond rfl (fun hq => ?_) fun hq => ?_ | refine R_guardT rfl rfl rfl (fun hq => ?_) fun hq => ?_ | refine R_guardF rfl rfl rfl (fun hq => ?_) fun hq => ?_ | refine D_guardT rfl rfl rfl (fun hq => ?_) fun hq => ?_ | refine D_guardF rfl rfl rfl (fun hq => ?_) fun hq => ?_) <;> (try rw [hq]) <;> first | have hp := of_decide_eq_true hq | have hp := of_decide_eq_false hq | have hp := of_decide_eq_false (not_t hq) | have hp := of_decide_eq_true (not_f hq) | have hp := hq))
    · refine ⟨i + 1, by omega, by omega, ?_⟩
      have hv : vioQ c j (nth L i).toNat = true := by rw [vioQ, show (!decide ((nth c.arcs (nth L i).toNat).sig = ↑j)) = true by assumption, ← hms (by omega), show decide (andI (nth (mskL c.arcs c.codes.length) (nth c.arcs (nth L i).toNat).dst.toNat / 2 ^ (2 * (j : Int)).toNat) 3 = 0) = true by assumption, show outI c (nth c.arcs (nth L i).toNat).sig = true by simpa using hp, Bool.or_true]; rfl
      have e : (vioA c k ++ (vioS c k j ++ (((L.take (i + 1)).filter fun x => vioQ c j x.toNat).map (mkV k j)))).map dPViol = (vioA c k ++ (vioS c k j ++ (((L.take i).filter fun x => vioQ c j x.toNat).map (mkV k j)))).map dPViol ++ [[.lit (.int .i64 k), .lit (.int .i64 j), .lit (.int .i64 (nth L i))]] := by
        rw [hst (by omega), hv, if_pos rfl]; simp [mkV, dPViol]
      rw [e]
      exact weakZ _
    · refine ⟨i + 1, by omega, by omega, ?_⟩
      have hv : vioQ c j (nth L i).toNat = false := by rw [vioQ, show outI c j = false by simpa using (show (!outI c j) = true by assumption), show outI c (nth c.arcs (nth L i).toNat).sig = false by simpa using hp]; simp
      rw [hst (by omega), hv, if_neg (by simp), List.append_nil]
      exact weakZ _
    · refine ⟨i + 1, by omega, by omega, ?_⟩
      have hv : vioQ c j (nth L i).toNat = true := by rw [vioQ, show (!decide ((nth c.arcs (nth L i).toNat).sig = ↑j)) = true by assumption, ← hms (by omega), show decide (andI (nth (mskL c.arcs c.codes.length) (nth c.arcs (nth L i).toNat).dst.toNat / 2 ^ (2 * (j : Int)).toNat) 3 = 0) = true by assumption, show outI c j = true by simpa using hp]; rfl
      have e : (vioA c k ++ (vioS c k j ++ (((L.take (i + 1)).filter fun x => vioQ c j x.toNat).map (mkV k j)))).map dPViol = (vioA c k ++ (vioS c k j ++ (((L.take i).filter fun x => vioQ c j x.toNat).map (mkV k j)))).map dPViol ++ [[.lit (.int .i64 k), .lit (.int .i64 j), .lit (.int .i64 (nth L i))]] := by
        rw [hst (by omega), hv, if_pos rfl]; simp [mkV, dPViol]
      rw [e]
      exact weakZ _
    · refine ⟨i + 1, by omega, by omega, ?_⟩
      have hv : vioQ c j (nth L i).toNat = false := by rw [vioQ, ← hms (by omega), hq]; simp
      rw [hst (by omega), hv, if_neg (by simp), List.append_nil]
      exact weakZ _
    · refine ⟨i + 1, by omega, by omega, ?_⟩
      have hv : vioQ c j (nth L i).toNat = false := by rw [vioQ, hq]; rfl
      rw [hst (by omega), hv, if_neg (by simp), List.append_nil]
      exact weakZ _
    · refine ⟨j + 1, by omega, by omega, ?_⟩
      rw [List.take_of_length_le (by omega), hL1, ← hex]
      exact weakZ _
  · refine ⟨k + 1, by omega, by omega, ?_⟩
    rw [vioA, show c.signals.length = j by omega]
    exact weakZ _
end Go.Proofs.Ytcmedjlpaondjaa
namespace Go.Proofs.Ytcmedjlpaondjaa
open Go.ChangeShapes Go.WideShapes Go.ChangeAt Go.RowKit

theorem pickN_mono {p q : Nat → Bool} (h : ∀ i, p i = true → q i = true) : ∀ n, (pickN p n).length ≤ (pickN q n).length
  | 0 => Nat.le_refl _
  | n + 1 => by
    have ih := pickN_mono h n
    cases hp : p n
    · rw [pickN_no hp]
      cases hq : q n
      · rw [pickN_no hq]; exact ih
      · rw [pickN_yes hq, List.length_append]; simp; omega
    · rw [pickN_yes hp, pickN_yes (h n hp), List.length_append, List.length_append]; simp; omega
def lvSum (c : SGraph) (m : Nat) : Nat → Nat
  | 0 => 0
  | k + 1 => lvSum c m k + (pickN (lvP c k) m).length
theorem lvSum_step (c : SGraph) (m : Nat) : ∀ K : Nat, lvSum c (m + 1) K = lvSum c m K + (if 0 ≤ (nth c.arcs m).src ∧ (nth c.arcs m).src < K then 1 else 0)
  | 0 => by
    rw [if_neg (by omega)]; rfl
  | K + 1 => by
    simp only [lvSum, lvSum_step c m K]
    by_cases h : (nth c.arcs m).src = (K : Int)
    · rw [pickN_yes (p := lvP c K) (by simpa [lvP] using h), List.length_append, if_neg (by omega), if_pos (by omega)]
      simp; omega
    · rw [pickN_no (p := lvP c K) (by simpa [lvP] using h)]
      by_cases h2 : 0 ≤ (nth c.arcs m).src ∧ (nth c.arcs m).src < (K : Int)
      · rw [if_pos h2, if_pos (by omega)]; omega
      · rw [if_neg h2, if_neg (by omega)]; omega
theorem lvSum_zero (c : SGraph) : ∀ K : Nat, lvSum c 0 K = 0
  | 0 => rfl
  | K + 1 => by simp only [lvSum, lvSum_zero c K]; rfl
theorem lvSum_le (c : SGraph) (K : Nat) : ∀ m, lvSum c m K ≤ m
  | 0 => by rw [lvSum_zero]; exact Nat.le_refl _
  | m + 1 => by
    have := lvSum_le c K m
    rw [lvSum_step]; split <;> omega
theorem vioE_le (c : SGraph) (k sig : Int) : (vioE c k sig).length ≤ (pickN (lvP c k) c.arcs.length).length := by
  unfold vioE; split
  · rw [vioR, List.length_map]
    exact pickN_mono (fun i h => by simp only [vioP, Bool.and_eq_true] at h; exact h.1) _
  · simp
theorem vioS_le (c : SGraph) (k : Int) : ∀ j, (vioS c k j).length ≤ j * (pickN (lvP c k) c.arcs.length).length
  | 0 => by simp [vioS]
  | j + 1 => by
    have := vioS_le c k j; have h2 := vioE_le c k j
    rw [vioS, List.length_append, Nat.add_mul]; omega
theorem vioA_le (c : SGraph) : ∀ k, (vioA c k).length ≤ c.signals.length * lvSum c c.arcs.length k
  | 0 => by simp [vioA]
  | k + 1 => by
    have := vioA_le c k; have h2 := vioS_le c k c.signals.length
    rw [vioA, List.length_append, lvSum, Nat.mul_add]; omega
theorem vioL_len {c : SGraph} (hg : goodSG c = true) : (vioL c).length ≤ 32000 := by
  have hb := goodSG_len hg
  exact Nat.le_trans (vioA_le c _) (Nat.le_trans (Nat.mul_le_mul (show c.signals.length ≤ 8 by omega) (Nat.le_trans (lvSum_le c _ _) (show c.arcs.length ≤ 4000 by omega))) (by decide))
theorem vioZ_len (c : SGraph) : (vioZ c).length ≤ 32000 := by
  unfold vioZ; split
  · rename_i h; exact vioL_len h
  · simp

theorem PersistencyViolations_f (c : SGraph) : Fn Try.prog 42 [.agg (dSGraph c)] (.tup [.own 0, .lit (.bool (goodSG c))]) [.arr 37 3 ((vioZ c).map dPViol) true] := by
  refine Fn_of Try.func42 rfl (by kernel_rfl) rfl rfl ?_
  intro w0 A hin
  have hV := IsValidStateGraph_f c
  cases hg : goodSG c <;> rw [hg] at hV
  · repeat' (first | refine goZ ?_ | refine R_callZ rfl (hV) rfl rfl rfl ?_ | refine R_callvZ rfl (hV) rfl rfl rfl rfl ?_ | refine D_callZ rfl (hV) rfl rfl rfl ?_ | ((first | refine R_cond rfl (fun hq => ?_) fun hq => ?_ | refine R_guardT rfl rfl rfl (fun hq => ?_) fun hq => ?_ | refine R_guardF rfl rfl rfl (fun hq => ?_) fun hq => ?_ | refine D_guardT rfl rfl rfl (fun hq => ?_) fun hq => ?_ | refine D_guardF rfl rfl rfl (fun hq => ?_) fun hq => ?_) <;> (try rw [hq]) <;> first | have hp := of_decide_eq_true hq | have hp := of_decide_eq_false hq | have hp := of_decide_eq_false (not_t hq) | have hp := of_decide_eq_true (not_f hq) | have hp := hq))
    exact ret_nil_lit rfl (by simp [vioZ, hg]) rfl
  · repeat' (first | refine goZ ?_ | refine R_callZ rfl (hV) rfl rfl rfl ?_ | refine R_callZ rfl (violations_f c hg) rfl rfl rfl ?_ | refine R_callvZ rfl (hV) rfl rfl rfl rfl ?_ | refine R_callvZ rfl (violations_f c hg) rfl rfl rfl rfl ?_ | refine D_callZ rfl (hV) rfl rfl rfl ?_ | refine D_callZ rfl (violations_f c hg) rfl rfl rfl ?_ | ((first | refine R_cond rfl (fun hq => ?_) fun hq => ?_ | refine R_guardT rfl rfl rfl (fun hq => ?_) fun hq => ?_ | refine R_guardF rfl rfl rfl (fun hq => ?_) fun hq => ?_ | refine D_guardT rfl rfl rfl (fun hq => ?_) fun hq => ?_ | refine D_guardF rfl rfl rfl (fun hq => ?_) fun hq => ?_) <;> (try rw [hq]) <;> first | have hp := of_decide_eq_true hq | have hp := of_decide_eq_false hq | have hp := of_decide_eq_false (not_t hq) | have hp := of_decide_eq_true (not_f hq) | have hp := hq))
    exact ret_own_lit rfl rfl (by simp [vioZ, hg]) rfl

theorem vioR_yes {c : SGraph} {k sig : Int} {m : Nat} (h : vioP c k sig m = true) : vioR c k sig (m + 1) = vioR c k sig m ++ [⟨k, sig, m⟩] := by
  simp only [vioR, pickN_yes h, List.map_append, List.map_cons, List.map_nil, mkV]
theorem vioR_no {c : SGraph} {k sig : Int} {m : Nat} (h : vioP c k sig m = false) : vioR c k sig (m + 1) = vioR c k sig m := by
  simp only [vioR, pickN_no h]

set_option maxHeartbeats 4000000 in
theorem l6Breaks_f (c : SGraph) (hg : goodSG c = true) : Fn Try.prog 36 [.agg (dSGraph c)] (.own 0) [.arr 37 3 ((vioL c).map dPViol) true] := by
  refine Fn_of Try.func36 rfl (by kernel_rfl) rfl rfl ?_
  intro w0 A hin
  have hza := len_dArcD c.arcs
  have hzs := len_dSig c.signals
  have hzc := len_strs c.codes
  have hb := goodSG_len hg
  repeat' (first | refine goZ ?_ | ((first | refine R_cond rfl (fun hq => ?_) fun hq => ?_ | refine R_guardT rfl rfl rfl (fun hq => ?_) fun hq => ?_ | refine R_guardF rfl rfl rfl (fun hq => ?_) fun hq => ?_ | refine D_guardT rfl rfl rfl (fun hq => ?_) fun hq => ?_ | refine D_guardF rfl rfl rfl (fun hq => ?_) fun hq => ?_) <;> (try rw [hq]) <;> first | have hp := of_decide_eq_true hq | have hp := of_decide_eq_false hq | have hp := of_decide_eq_false (not_t hq) | have hp := of_decide_eq_true (not_f hq) | have hp := hq))
  refine W_open 3 37 3 rfl ?_
  refine W_loop (fun k : Nat => ⟨_, [(1, .ptr 0 0), (3, .own 1), (10, .lit (.int .i64 c.codes.length)), (11, .lit (.int .i64 k))], [.cells 35 (dSGraph c), .arr 37 3 ((vioA c k).map dPViol) true]⟩) (fun k => k ≤ c.codes.length) (fun k => c.codes.length - k) 0 (Nat.zero_le _) (weakZ []) ?_
  intro k hk
  repeat' (first | refine goZ ?_ | ((first | refine R_cond rfl (fun hq => ?_) fun hq => ?_ | refine R_guardT rfl rfl rfl (fun hq => ?_) fun hq => ?_ | refine R_guardF rfl rfl rfl (fun hq => ?_) fun hq => ?_ | refine D_guardT rfl rfl rfl (fun hq => ?_) fun hq => ?_ | refine D_guardF rfl rfl rfl (fun hq => ?_) fun hq => ?_) <;> (try rw [hq]) <;> first | have hp := of_decide_eq_true hq | have hp := of_decide_eq_false hq | have hp := of_decide_eq_false (not_t hq) | have hp := of_decide_eq_true (not_f hq) | have hp := hq))
  rotate_left
  · exact ret_own rfl rfl (by rw [vioL, show k = c.codes.length by omega])
  have hkn : k < c.codes.length := by omega
  have hav := vioA_len c k
  have hA : (vioA c k).length ≤ 9600000 := Nat.le_trans hav (Nat.le_trans (Nat.mul_le_mul (show k ≤ 300 by omega) (Nat.mul_le_mul (show c.signals.length ≤ 8 by omega) (show c.arcs.length ≤ 4000 by omega))) (by decide))
  refine W_loop (fun j : Nat => ⟨_, [(1, .ptr 0 0), (3, .own 1), (4, .lit (.int .i64 k)), (10, .lit (.int .i64 c.codes.length)), (11, .lit (.int .i64 k)), (16, .lit (.int .i64 c.signals.length)), (17, .lit (.int .i64 j))], [.cells 35 (dSGraph c), .arr 37 3 ((vioA c k ++ vioS c k j).map dPViol) true]⟩) (fun j => j ≤ c.signals.length) (fun j => c.signals.length - j) 0 (Nat.zero_le _) (by rw [vioS, List.append_nil]; exact weakZ []) ?_
  intro j hj
  have hsv := vioS_len c k j
  have hB : (vioS c k j).length ≤ 32000 := Nat.le_trans hsv (Nat.le_trans (Nat.mul_le_mul (show j ≤ 8 by omega) (show c.arcs.length ≤ 4000 by omega)) (by decide))
  repeat' (first | refine goZ ?_ | refine R_callZ rfl (l5Excited_f c k j) rfl rfl rfl ?_ | refine R_callvZ rfl (l5Excited_f c k j) rfl rfl rfl rfl ?_ | refine D_callZ rfl (l5Excited_f c k j) rfl rfl rfl ?_ | ((first | refine R_cond rfl (fun hq => ?_) fun hq => ?_ | refine R_guardT rfl rfl rfl (fun hq => ?_) fun hq => ?_ | refine R_guardF rfl rfl rfl (fun hq => ?_) fun hq => ?_ | refine D_guardT rfl rfl rfl (fun hq => ?_) fun hq => ?_ | refine D_guardF rfl rfl rfl (fun hq => ?_) fun hq => ?_) <;> (try rw [hq]) <;> first | have hp := of_decide_eq_true hq | have hp := of_decide_eq_false hq | have hp := of_decide_eq_false (not_t hq) | have hp := of_decide_eq_true (not_f hq) | have hp := hq))
  · refine ⟨j + 1, by omega, by omega, ?_⟩
    have e : vioE c k j = [] := by rw [vioE, show c.arcs.any (excP k j) = false by simpa using hp]; rfl
    rw [vioS, e, List.append_nil]
    exact weakZ _
  · have hjs : j < c.signals.length := by omega
    have hex : vioE c k j = vioR c k j c.arcs.length := by rw [vioE, show c.arcs.any (excP k j) = true by simpa using hp]; rfl
    refine W_loop (fun i : Nat => ⟨_, [(1, .ptr 0 0), (3, .own 1), (4, .lit (.int .i64 k)), (5, .lit (.int .i64 j)), (10, .lit (.int .i64 c.codes.length)), (11, .lit (.int .i64 k)), (16, .lit (.int .i64 c.signals.length)), (17, .lit (.int .i64 j)), (26, .sh 4 (c.arcs.map dArcD)), (27, .lit (.int .i64 c.arcs.length)), (28, .lit (.int .i64 i))], [.cells 35 (dSGraph c), .arr 37 3 ((vioA c k ++ (vioS c k j ++ vioR c k j i)).map dPViol) true]⟩) (fun i => i ≤ c.arcs.length) (fun i => c.arcs.length - i) 0 (Nat.zero_le _) (by rw [show vioR c k j 0 = [] from rfl, List.append_nil]; exact weakZ []) ?_
    intro i hi
    have hsg : i < c.arcs.length → -1 ≤ (nth c.arcs i).sig ∧ (nth c.arcs i).sig < c.signals.length := fun h => sigs_in hg _ (nth_mem h)
    have hfl := vioR_len c k j i
    repeat' (first | refine goZ ?_ | refine R_callZ rfl (l5Excited_f c (nth c.arcs i).dst j) rfl rfl rfl ?_ | refine R_callZ rfl (l6OwnI_f c j (by omega)) rfl rfl rfl ?_ | refine R_callZ rfl (l6OwnI_f c (nth c.arcs i).sig (hsg (by omega))) rfl rfl rfl ?_ | refine R_callvZ rfl (l5Excited_f c (nth c.arcs i).dst j) rfl rfl rfl rfl ?_ | refine R_callvZ rfl (l6OwnI_f c j (by omega)) rfl rfl rfl rfl ?_ | refine R_callvZ rfl (l6OwnI_f c (nth c.arcs i).sig (hsg (by omega))) rfl rfl rfl rfl ?_ | refine D_callZ rfl (l5Excited_f c (nth c.arcs i).dst j) rfl rfl rfl ?_ | refine D_callZ rfl (l6OwnI_f c j (by omega)) rfl rfl rfl ?_ | refine D_callZ rfl (l6OwnI_f c (nth c.arcs i).sig (hsg (by omega))) rfl rfl rfl ?_ | ((first | refine R_cond rfl (fun hq => ?_) fun hq => ?_ | refine R_guardT rfl rfl rfl (fun hq => ?_) fun hq => ?_ | refine R_guardF rfl rfl rfl (fun hq => ?_) fun hq => ?_ | refine D_guardT rfl rfl rfl (fun hq => ?_) fun hq => ?_ | refine D_guardF rfl rfl rfl (fun hq => ?_) fun hq => ?_) <;> (try rw [hq]) <;> first | have hp := of_decide_eq_true hq | have hp := of_decide_eq_false hq | have hp := of_decide_eq_false (not_t hq) | have hp := of_decide_eq_true (not_f hq) | have hp := hq))
    · refine ⟨i + 1, by omega, by omega, ?_⟩
      have e : (vioA c k ++ (vioS c k j ++ vioR c k j (i + 1))).map dPViol = (vioA c k ++ (vioS c k j ++ vioR c k j i)).map dPViol ++ [[.lit (.int .i64 k), .lit (.int .i64 j), .lit (.int .i64 i)]] := by
        rw [vioR_yes (c := c) (k := k) (sig := j) (m := i) (by rw [vioP, lvP, vioQ]; rw [show decide ((nth c.arcs i).src = ↑k) = true by assumption, show (!decide ((nth c.arcs i).sig = ↑j)) = true by assumption, show (!c.arcs.any (excP (nth c.arcs i).dst ↑j)) = true by assumption, show outI c (nth c.arcs i).sig = true by assumption, Bool.or_true]; rfl)]; simp [dPViol]
      rw [e]
      exact weakZ _
    · refine ⟨i + 1, by omega, by omega, ?_⟩
      rw [vioR_no (c := c) (k := k) (sig := j) (m := i) (by rw [vioP, lvP, vioQ]; rw [show outI c (nth c.arcs i).sig = false by assumption, show outI c ↑j = false by assumption]; simp)]
      exact weakZ _
    · refine ⟨i + 1, by omega, by omega, ?_⟩
      have e : (vioA c k ++ (vioS c k j ++ vioR c k j (i + 1))).map dPViol = (vioA c k ++ (vioS c k j ++ vioR c k j i)).map dPViol ++ [[.lit (.int .i64 k), .lit (.int .i64 j), .lit (.int .i64 i)]] := by
        rw [vioR_yes (c := c) (k := k) (sig := j) (m := i) (by rw [vioP, lvP, vioQ]; rw [show decide ((nth c.arcs i).src = ↑k) = true by assumption, show (!decide ((nth c.arcs i).sig = ↑j)) = true by assumption, show (!c.arcs.any (excP (nth c.arcs i).dst ↑j)) = true by assumption, show outI c ↑j = true by assumption]; rfl)]; simp [dPViol]
      rw [e]
      exact weakZ _
    · refine ⟨i + 1, by omega, by omega, ?_⟩
      rw [vioR_no (c := c) (k := k) (sig := j) (m := i) (by rw [vioP, lvP, vioQ]; rw [show (!c.arcs.any (excP (nth c.arcs i).dst ↑j)) = false by assumption]; simp)]
      exact weakZ _
    · refine ⟨i + 1, by omega, by omega, ?_⟩
      rw [vioR_no (c := c) (k := k) (sig := j) (m := i) (by rw [vioP, lvP, vioQ]; rw [show (!decide ((nth c.arcs i).sig = ↑j)) = false by assumption]; simp)]
      exact weakZ _
    · refine ⟨i + 1, by omega, by omega, ?_⟩
      rw [vioR_no (c := c) (k := k) (sig := j) (m := i) (by rw [vioP, lvP, vioQ]; rw [show decide ((nth c.arcs i).src = ↑k) = false by assumption]; simp)]
      exact weakZ _
    · refine ⟨j + 1, by omega, by omega, ?_⟩
      rw [vioS, hex, show c.arcs.length = i by omega]
      exact weakZ _
  · refine ⟨k + 1, by omega, by omega, ?_⟩
    rw [vioA, show c.signals.length = j by omega]
    exact weakZ _

end Go.Proofs.Ytcmedjlpaondjaa
