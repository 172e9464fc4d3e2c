/- Reading lines: the reference's reading of a text. No condition. Bounds on what the reading hands back. No condition. What the row's condition and the world's shape give of the variables that the reading of lines reads. No condition. -/
import Derived.Test.YtcpjhpjlcgcigaaGreatDoorPsG
import Derived.Test.YtcpjhpjlcgcigaaGreatDoorPrC
import Derived.Test.YtcpjhpjlcgcigaaGreatDoorRows
import Derived.MakeChecks
import Derived.OpenShut
import Derived.ChangeVars
import Derived.ChangeArms
import Derived.RowKit
import Derived.Lay
import Derived.Stop.LaidErr
import Derived.Shelf.Vars
import Derived.SizedLaws
set_option linter.unusedSimpArgs false
set_option linter.unusedVariables false
set_option maxHeartbeats 2000000
namespace Go.Proofs.YtcpjhpjlcgcigaaGreatDoor
open Go.ChangeShapes Go.WideShapes Go.ChangeAt Go.RowKit

set_option maxHeartbeats 4000000 in
theorem specParse_g (t : ByteArray) (ht : t.size ≤ 1048576) (r : PR) (hr : resS t = r) : FnG (fun _ => True) Tryz.prog 4 [.lit (.string t)] (dPR r) (bPR r) := by
  refine FnG_ofE tabOk Tryz.func4 rfl (by kernel_rfl) rfl rfl ?_
  intro w0 A hX hin
  by_cases ha : askedP t = true
  · obtain ⟨a1, a2, a3⟩ := asked_yes ha
    have HA := Lib.hid ha
    clear ha
    have hS := l1Split_f (t.extract 0 ((t.size : Int) - 1).toNat) 10 (by rw [ByteArray.size_extract]; omega)
    rw [show splitS (t.extract 0 ((t.size : Int) - 1).toNat) 10 = linesOf t from rfl] at hS
    have hp1 := lines_pos t
    have hp2 := lines_len a2
    have hp3 : ∀ x ∈ linesOf t, x.size ≤ 4000 := fun x hx => lines_size a2 hx
    obtain ⟨ls, hls⟩ : ∃ ls, ls = linesOf t := ⟨_, rfl⟩
    rw [← hls] at hS hp1 hp2 hp3
    have HL := Lib.hid hls
    clear hls
    have hz := len_strs ls
    repeat' (first | refine goZ ?_ | refine R_callZ rfl (hS) rfl rfl rfl ?_ | refine R_callvZ rfl (hS) rfl rfl rfl rfl ?_ | refine D_callZ rfl (hS) rfl rfl rfl ?_ | ((first | refine R_cond rfl (fun hq => ?_) fun hq => ?_ | refine R_guardT rfl rfl rfl (fun hq => ?_) fun hq => ?_ | refine R_guardF rfl rfl rfl (fun hq => ?_) fun hq => ?_ | refine D_guardT rfl rfl rfl (fun hq => ?_) fun hq => ?_ | refine D_guardF rfl rfl rfl (fun hq => ?_) fun hq => ?_) <;> (try rw [hq]) <;> first | have hp := of_decide_eq_true hq | have hp := of_decide_eq_false hq | have hp := of_decide_eq_false (not_t hq) | have hp := of_decide_eq_true (not_f hq) | have hp := hq))
    all_goals try (exfalso; first | omega | contradiction)
    rotate_left 1
    · exfalso
      rw [hp] at a1
      simp [ByteArray.size] at a1
    refine W_openC 1 1 52 2 rfl rfl rfl ?_
    refine W_openC 1 2 71 2 rfl rfl rfl ?_
    refine W_openC 1 3 49 2 rfl rfl rfl ?_
    refine W_weak (s' := ⟨Tryz.f4.ntmps, [(0, .lit (.string t)), (2, .ptr 4 0), (6, .ptr 0 0), (32, .own 5), (33, .lit (.int .i64 (strs ls).length)), (34, .lit (.int .i64 (0 : Nat)))], bPS p0 ++ [.cells 28 [.lit (.int .i64 0), .nil, .nil, .nil, .lit (.string ⟨#[]⟩)], .arr 9 1 (strs ls) true]⟩) (Weak_ren2 [some 1, some 3, some 4, some 5, some 0, some 2] rfl rfl ?_ ?_) ?_
    · (repeat' (first | exact trivial | rfl | refine And.intro ?_ ?_)) <;> done
    · (repeat' (first | exact trivial | rfl | refine And.intro ?_ ?_)) <;> done
    refine W_loop (fun x : Nat × PS => ⟨_, [(0, .lit (.string t)), (2, .ptr 4 0), (6, .ptr 0 0), (32, .own 5), (33, .lit (.int .i64 ls.length)), (34, .lit (.int .i64 x.1))], bPS x.2 ++ [.cells 28 [.lit (.int .i64 0), .nil, .nil, .nil, .lit (.string ⟨#[]⟩)], .arr 9 1 (strs ls) true]⟩) (fun x => x.1 ≤ ls.length ∧ linesS ls x.1 = some x.2) (fun x => ls.length - x.1) (0, p0) ⟨Nat.zero_le _, rfl⟩ (by rw [hz]; exact weakZ []) ?_
    rintro ⟨k, p⟩ ⟨hk, hp⟩
    dsimp only at hk hp ⊢
    have hB := linesS_b hp3 k p hk hp
    have hHP := Lib.hid hp
    clear hp
    rcases Nat.lt_or_ge k ls.length with hlt | hge
    · have hx := hp3 _ (nth_mem hlt)
      have hW := l1Split_f (nth ls k) 32 (by omega)
      have hws1 := splitS_pos (nth ls k) 32
      have hws2 := splitS_len (nth ls k) 32
      have hws3 : ∀ x ∈ splitS (nth ls k) 32, x.size ≤ 1048576 := fun x hx' => by have := splitS_size hx'; omega
      have hLn := line_f p (splitS (nth ls k) 32) hws1 (by omega) (by have := hB.sg; omega) hB.k0 (by have := hB.tr; omega) (by have := hB.lb; omega) hws3
      have hHL := Lib.hid (show linesS ls (k + 1) = lineS p (splitS (nth ls k) 32) from linesS_some hHP.out)
      clear hws1 hws2 hws3 hB
      generalize splitS (nth ls k) 32 = ws at hW hLn hHL
      dsimp only [bPS, List.cons_append, List.nil_append]
      repeat' (first | refine goZ ?_ | refine R_callZ rfl (hW) rfl rfl rfl ?_ | refine R_callvZ rfl (hW) rfl rfl rfl rfl ?_ | refine R_callP (hp2 := [.cells 28 [.lit (.int .i64 0), .nil, .nil, .nil, .lit (.string ⟨#[]⟩)], .arr 9 1 (strs ls) true, .arr 9 1 (strs ws) true]) rfl hLn rfl rfl rfl rfl rfl rfl rfl rfl ?_ | refine D_callZ rfl (hW) rfl rfl rfl ?_ | ((first | refine R_cond rfl (fun hq => ?_) fun hq => ?_ | refine R_guardT rfl rfl rfl (fun hq => ?_) fun hq => ?_ | refine R_guardF rfl rfl rfl (fun hq => ?_) fun hq => ?_ | refine D_guardT rfl rfl rfl (fun hq => ?_) fun hq => ?_ | refine D_guardF rfl rfl rfl (fun hq => ?_) fun hq => ?_) <;> (try rw [hq]) <;> first | have hp := of_decide_eq_true hq | have hp := of_decide_eq_false hq | have hp := of_decide_eq_false (not_t hq) | have hp := of_decide_eq_true (not_f hq) | have hp := hq))
      · intro v bs' _ hp' _
        rcases hp' with ⟨p', e2, rfl, rfl⟩ | ⟨e2, rfl, p', rfl⟩
        · repeat' (first | refine goZ ?_ | ((first | refine R_cond rfl (fun hq => ?_) fun hq => ?_ | refine R_guardT rfl rfl rfl (fun hq => ?_) fun hq => ?_ | refine R_guardF rfl rfl rfl (fun hq => ?_) fun hq => ?_ | refine D_guardT rfl rfl rfl (fun hq => ?_) fun hq => ?_ | refine D_guardF rfl rfl rfl (fun hq => ?_) fun hq => ?_) <;> (try rw [hq]) <;> first | have hp := of_decide_eq_true hq | have hp := of_decide_eq_false hq | have hp := of_decide_eq_false (not_t hq) | have hp := of_decide_eq_true (not_f hq) | have hp := hq))
          exact ⟨(k + 1, p'), ⟨by dsimp only; omega, hHL.out.trans e2⟩, by dsimp only; omega, weakZ _⟩
        · have e3 := resS_fail HA.out (k := k) (p := p) (by rw [← HL.out]; exact hlt) (by rw [← HL.out]; exact hHP.out) (by rw [← HL.out, ← linesS_some hHP.out, hHL.out]; exact e2)
          rw [hr] at e3
          repeat' (first | refine goZ ?_ | ((first | refine R_cond rfl (fun hq => ?_) fun hq => ?_ | refine R_guardT rfl rfl rfl (fun hq => ?_) fun hq => ?_ | refine R_guardF rfl rfl rfl (fun hq => ?_) fun hq => ?_ | refine D_guardT rfl rfl rfl (fun hq => ?_) fun hq => ?_ | refine D_guardF rfl rfl rfl (fun hq => ?_) fun hq => ?_) <;> (try rw [hq]) <;> first | have hp := of_decide_eq_true hq | have hp := of_decide_eq_false hq | have hp := of_decide_eq_false (not_t hq) | have hp := of_decide_eq_true (not_f hq) | have hp := hq))
          exact .r (retE_none rfl e3 rfl rfl rfl)
      · exfalso; omega
    · obtain rfl : k = ls.length := by omega
      have hst := hB.st
      have hV := l2Good_f (stgP p) (Nat.le_trans hst (by decide))
      dsimp only [bPS, List.cons_append, List.nil_append]
      cases hg : goodStg (stgP p) <;> rw [hg] at hV
      · have e3 := resS_bad HA.out (p := p) (by rw [← HL.out]; exact hHP.out) (by rw [hg]; simp)
        rw [hr] at e3
        have HE := Lib.hid e3
        clear e3 hg
        repeat' (first | refine goZ ?_ | refine R_callxZ rfl (hV) rfl rfl rfl rfl (by repeat' (first | exact trivial | rfl | refine And.intro ?_ ?_)) ?_ | ((first | refine R_cond rfl (fun hq => ?_) fun hq => ?_ | refine R_guardT rfl rfl rfl (fun hq => ?_) fun hq => ?_ | refine R_guardF rfl rfl rfl (fun hq => ?_) fun hq => ?_ | refine D_guardT rfl rfl rfl (fun hq => ?_) fun hq => ?_ | refine D_guardF rfl rfl rfl (fun hq => ?_) fun hq => ?_) <;> (try rw [hq]) <;> first | have hp := of_decide_eq_true hq | have hp := of_decide_eq_false hq | have hp := of_decide_eq_false (not_t hq) | have hp := of_decide_eq_true (not_f hq) | have hp := hq))
        all_goals first
          | (exfalso; omega)
          | exact .r (retE_none rfl HE.out rfl rfl rfl)
      · have hT := l3Text_f (stgP p) hg (goodSz hg).sz
        have hE1 : fmtB (stgP p) p.trs.length = t → r = ⟨p, 0, 0, true⟩ := fun h => by rw [← hr]; exact resS_yes HA.out (by rw [← HL.out]; exact hHP.out) hg h
        have hE2 : ¬ fmtB (stgP p) p.trs.length = t → r = ⟨p0, 3, 0, false⟩ := fun h => by rw [← hr]; exact resS_bad HA.out (by rw [← HL.out]; exact hHP.out) (fun h2 => h h2.2)
        have HE1 := Lib.hid hE1
        have HE2 := Lib.hid hE2
        clear hE1 hE2 hg
        repeat' (first | refine goZ ?_ | refine R_callxZ rfl (hV) rfl rfl rfl rfl (by repeat' (first | exact trivial | rfl | refine And.intro ?_ ?_)) ?_ | refine R_callxZ rfl (hT) rfl rfl rfl rfl (by repeat' (first | exact trivial | rfl | refine And.intro ?_ ?_)) ?_ | ((first | refine R_cond rfl (fun hq => ?_) fun hq => ?_ | refine R_guardT rfl rfl rfl (fun hq => ?_) fun hq => ?_ | refine R_guardF rfl rfl rfl (fun hq => ?_) fun hq => ?_ | refine D_guardT rfl rfl rfl (fun hq => ?_) fun hq => ?_ | refine D_guardF rfl rfl rfl (fun hq => ?_) fun hq => ?_) <;> (try rw [hq]) <;> first | have hp := of_decide_eq_true hq | have hp := of_decide_eq_false hq | have hp := of_decide_eq_false (not_t hq) | have hp := of_decide_eq_true (not_f hq) | have hp := hq))
        · exfalso; omega
        · exact .r (retE_none rfl (HE2.out hp) rfl rfl rfl)
        · exact .r (retE_some (p := p) rfl rfl rfl rfl (by decide) (HE1.out hp))
  · have h3 : askedP t = false := by simpa using ha
    have h4 := resS_not h3
    rw [hr] at h4
    have HA := Lib.hid ha
    clear ha h3
    have hS := l1Split_f (t.extract 0 ((t.size : Int) - 1).toNat) 10 (by rw [ByteArray.size_extract]; omega)
    by_cases h0 : t = ⟨#[]⟩
    · repeat' (first | refine goZ ?_ | refine R_callZ rfl (hS) rfl rfl rfl ?_ | refine R_callvZ rfl (hS) rfl rfl rfl rfl ?_ | refine D_callZ rfl (hS) rfl rfl rfl ?_ | ((first | refine R_cond rfl (fun hq => ?_) fun hq => ?_ | refine R_guardT rfl rfl rfl (fun hq => ?_) fun hq => ?_ | refine R_guardF rfl rfl rfl (fun hq => ?_) fun hq => ?_ | refine D_guardT rfl rfl rfl (fun hq => ?_) fun hq => ?_ | refine D_guardF rfl rfl rfl (fun hq => ?_) fun hq => ?_) <;> (try rw [hq]) <;> first | have hp := of_decide_eq_true hq | have hp := of_decide_eq_false hq | have hp := of_decide_eq_false (not_t hq) | have hp := of_decide_eq_true (not_f hq) | have hp := hq))
      all_goals first
        | exact .r (retE_none rfl h4 rfl rfl rfl)
        | contradiction
    · have hsz := empty_size h0
      repeat' (first | refine goZ ?_ | refine R_callZ rfl (hS) rfl rfl rfl ?_ | refine R_callvZ rfl (hS) rfl rfl rfl rfl ?_ | refine D_callZ rfl (hS) rfl rfl rfl ?_ | ((first | refine R_cond rfl (fun hq => ?_) fun hq => ?_ | refine R_guardT rfl rfl rfl (fun hq => ?_) fun hq => ?_ | refine R_guardF rfl rfl rfl (fun hq => ?_) fun hq => ?_ | refine D_guardT rfl rfl rfl (fun hq => ?_) fun hq => ?_ | refine D_guardF rfl rfl rfl (fun hq => ?_) fun hq => ?_) <;> (try rw [hq]) <;> first | have hp := of_decide_eq_true hq | have hp := of_decide_eq_false hq | have hp := of_decide_eq_false (not_t hq) | have hp := of_decide_eq_true (not_f hq) | have hp := hq))
      all_goals first
        | exact .r (retE_none rfl h4 rfl rfl rfl)
        | contradiction
        | (exfalso; exact HA.out (by rw [askedP, decide_eq_true_eq]; exact ⟨hsz, by omega, by assumption⟩))
theorem specParse_f (t : ByteArray) (ht : t.size ≤ 1048576) : Fn Tryz.prog 4 [.lit (.string t)] (dPR (resS t)) (bPR (resS t)) := (specParse_g t ht _ rfl).fn
end Go.Proofs.YtcpjhpjlcgcigaaGreatDoor
namespace Go.Proofs.YtcpjhpjlcgcigaaGreatDoor
open Go.ChangeShapes Go.WideShapes Go.ChangeAt Go.RowKit

theorem p0_le : ((cntTrs (stgP p0).net.trs ≤ 1440 ∧ (stgP p0).net.trs.length ≤ 24) ∧ (stgP p0).signals.length ≤ 8 ∧ (stgP p0).labels.length ≤ 24) ∧ -9223372036854775808 ≤ (stgP p0).net.places ∧ (stgP p0).net.places ≤ 9223372036854775807 := by
  simp [stgP, cntTrs]
theorem resS_le {t : ByteArray} {r : PR} (h : resS t = r) : ((cntTrs (stgP r.p).net.trs ≤ 1440 ∧ (stgP r.p).net.trs.length ≤ 24) ∧ (stgP r.p).signals.length ≤ 8 ∧ (stgP r.p).labels.length ≤ 24) ∧ -9223372036854775808 ≤ (stgP r.p).net.places ∧ (stgP r.p).net.places ≤ 9223372036854775807 := by
  subst h
  unfold resS
  split
  · exact p0_le
  · split
    · exact p0_le
    · split
      · rename_i hg
        have hz := goodSz hg.1
        obtain ⟨h1, h2, h3, h4, h5, h6, h7⟩ := hz
        exact ⟨⟨⟨Nat.le_trans h2 (by decide), h1⟩, h3, h4⟩, Int.le_trans (by decide) h6.1, Int.le_trans h6.2 (by decide)⟩
      · exact p0_le
end Go.Proofs.YtcpjhpjlcgcigaaGreatDoor
namespace Go.Proofs.YtcpjhpjlcgcigaaGreatDoor
open Go.ChangeShapes Go.WideShapes Go.ChangeAt Go.RowKit

theorem gKw : Tryz.prog.globalNamed "loop.example/g00862/impl.kindWords" = some 0 := by kernel_rfl
theorem tKw : (Tryz.prog.globals[0]?).map (·.type) = some 69 := by kernel_rfl
def kwCells : Array Value := #[.string (kwB 0), .string (kwB 1), .string (kwB 2), .string (kwB 3)]
theorem kw_str {H : Type} {enc : TypeId × Value → H} {W : World} {sp : Nat → Bool} {held : Bool} {m : Nat} {cs : List Value} {x : DataW H × List MemPlace} {l : List UInt8} (h : DataW.trod enc Tryz.prog W 0 sp held m 9 cs = some x) (hx : x.1 = .lit (.string l)) : cs = [.string ⟨l.toArray⟩] := by
  obtain ⟨s, rfl, rfl, _⟩ := DataW.trod_string Tryz.underlying9 h
  simp only [DataW.lit.injEq, Lit.string.injEq] at hx
  subst hx
  simp
set_option maxRecDepth 100000 in
theorem kw_read {W : World} {sp : Nat → Bool} {held : Bool} {fuel : Nat} {cs : Array Value} {p : List MemPlace} (h : DataW.trod (H := Unit) (fun _ => ()) Tryz.prog W 0 sp held fuel 69 cs.toList = some (Rows.laid_loop_example_g00862_impl_kindWords, p)) : cs = kwCells := by
  obtain ⟨xs, m, rfl, hx, hlen, hn, hel⟩ := DataW.trod_array Tryz.underlying69 h
  have c9 : Tryz.prog.cellsOf 9 = 1 := by kernel_rfl
  have c94 : Tryz.prog.cellsOf 69 = 4 := by kernel_rfl
  rw [c94] at hlen
  rw [c9] at hel
  have hx := congrArg Prod.fst hx
  simp only [Rows.laid_loop_example_g00862_impl_kindWords, DataW.agg.injEq] at hx
  obtain ⟨l⟩ := cs
  match xs, hn, l, hlen with
  | [x0, x1, x2, x3], _, [d0, d1, d2, d3], _ =>
    simp only [List.map_cons, List.map_nil, List.cons.injEq, and_true] at hx
    obtain ⟨y0, y1, y2, y3⟩ := hx
    have h0 := kw_str (show DataW.trod _ Tryz.prog W 0 sp held m 9 [d0] = some x0 from hel 0 (by omega)) y0.symm
    have h1 := kw_str (show DataW.trod _ Tryz.prog W 0 sp held m 9 [d1] = some x1 from hel 1 (by omega)) y1.symm
    have h2 := kw_str (show DataW.trod _ Tryz.prog W 0 sp held m 9 [d2] = some x2 from hel 2 (by omega)) y2.symm
    have h3 := kw_str (show DataW.trod _ Tryz.prog W 0 sp held m 9 [d3] = some x3 from hel 3 (by omega)) y3.symm
    simp only [List.cons.injEq, and_true] at h0 h1 h2 h3
    subst h0; subst h1; subst h2; subst h3
    rfl
/-- What the condition lists. -/
abbrev laid8 : List (String × DataW Unit) := Rows.fnExactParseSTGRow.laid
theorem laid8_plain {W : World} (h : laidMetH Tryz.prog laid8 W) : laidMet Tryz.prog laid8 W := by
  rw [MakeChecks.laidMetH_plain _ _ _ (by kernel_rfl)] at h; exact h
theorem kw_var {W : World} (h : laidMetH Tryz.prog laid8 W) : W.var? Tryz.prog "loop.example/g00862/impl.kindWords" = some kwCells := by
  obtain ⟨ps, hl, _⟩ := (laid8_plain h).tail.tail.tail.tail.tail.tail
  obtain ⟨g, t, cs, fuel, p, q, hg, ht, hv, hd, _, _⟩ := hl
  obtain rfl := Option.some.inj (gKw.symm.trans hg)
  obtain rfl := Option.some.inj (tKw.symm.trans ht)
  rw [hv, kw_read hd]
theorem gES : Tryz.prog.globalNamed "strconv.ErrSyntax" = some 4 := by kernel_rfl
theorem tES : (Tryz.prog.globals[4]?).map (·.type) = some 107 := by kernel_rfl
theorem gER : Tryz.prog.globalNamed "strconv.ErrRange" = some 5 := by kernel_rfl
theorem tER : (Tryz.prog.globals[5]?).map (·.type) = some 107 := by kernel_rfl
theorem star : "*" ++ "errors.errorString" = "*errors.errorString" := by decide
theorem rowES (u : TypeId) (h : Tryz.prog.typeName? 3 u = some "*errors.errorString") : u = 151 :=
  typeName_ptr_named (nm := "errors.errorString") (by rw [star]; kernel_rfl) (by kernel_rfl) (by decide) u (by rw [star]; exact h)
theorem cellsEs : Tryz.prog.cellsOf 153 = 1 := by kernel_rfl
theorem cellsStr : Tryz.prog.cellsOf 9 = 1 := by kernel_rfl
theorem kw_KW {W : World} (h : W.var? Tryz.prog "loop.example/g00862/impl.kindWords" = some kwCells) : KW W := by
  intro j hj
  rw [World.var?_cell gKw h j]
  have : j = 0 ∨ j = 1 ∨ j = 2 ∨ j = 3 := by omega
  rcases this with rfl | rfl | rfl | rfl <;> rfl
theorem xw_of {W : World} (h : laidMetH Tryz.prog laid8 W) (hsh : W.ShapedOpen Tryz.prog) : XW W := by
  have h4 := (laid8_plain h).tail.tail.tail.tail
  obtain ⟨a1, s1, hv1, -, -, -⟩ := laid_sentinel h4 gER tER Tryz.underlying107 rowES Tryz.underlying151 Tryz.underlying153 rfl rfl Tryz.underlying9 cellsEs cellsStr
  obtain ⟨a2, s2, hv2, -, -, -⟩ := laid_sentinel h4.tail gES tES Tryz.underlying107 rowES Tryz.underlying151 Tryz.underlying153 rfl rfl Tryz.underlying9 cellsEs cellsStr
  refine ⟨kw_KW (kw_var h), ?_, ?_, ?_⟩
  · exact cell_of_shapedOpen_int (P := Tryz.prog) (g := 1) (t := 3) (zero := #[.int .i64 0]) hsh (of_decide_eq_true (by kernel_rfl)) (by kernel_rfl) rfl (by kernel_rfl) (by kernel_rfl) Tryz.underlying3
  · exact ⟨_, by have h0 := World.var?_cell gES hv2 0; simpa using h0, Or.inr ⟨_, _, rfl⟩⟩
  · exact ⟨_, by have h0 := World.var?_cell gER hv1 0; simpa using h0, Or.inr ⟨_, _, rfl⟩⟩
/-- The wrap of a row that lists variables, the world's shape kept. -/
theorem returns_and_shaped {H : Type} {enc : TypeId × Value → H} {a : Assume} {C : Checked} {os : Os} {f : FuncId} {fn : Func} {s : ChangeSpec} {conds : List PathCond} {apart fresh handsOn again : Bool} {X : World → Array Value → Prop}
    (hX : ∀ (w w' : World) (args : Array Value), w.heap = w'.heap → X w args → X w' args)
    (own : ownKnob C.prog.godebug = none) (started : os.Started) (noInit : C.prog.inits.idxOf? f = none) (hfn : C.prog.funcs[f]? = some fn)
    (witness : ∃ (w : World) (tape : Tape) (i : Input), w.os = os ∧ (w.forCall tape i).Shaped C.prog ∧ i.vars = [] ∧ Input.okWide C.prog (w.forCall tape i) .any w.heap.size f i ∧
      ((s.pre enc C.prog fn conds apart (w.forCall tape i).memory i.args ∧ X (w.forCall tape i).memory i.args) ∧ sizedMet enc C.prog fn (OpenSpec.ofChange s) apart (w.forCall tape i).memory i.args) ∧ a.holds C.prog (lone (Frame.enter C.prog f i.args .normal) [] (w.forCall tape i)))
    (contract : ∀ (W : World) (base : Nat) (args : Array Value) (ds gs : List (DataW H)) (before : List MemPlace),
      (∀ (j : Nat) t v, fn.params[j]? = some t → args[j]? = some v → Value.okWide C.prog W .any base t v) →
      DataW.Whole enc C.prog fn.params.toList s.vars apart W args.toList ds gs before →
      conds.all (PathCond.test C.prog ⟨fn.params.toList, ds, s.plain.varTypes C.prog, gs⟩) = true →
      W.ShapedOpen C.prog → X W args →
      a.holds C.prog (lone (Frame.enter C.prog f args .normal) [] W) →
      Calls C.prog f args W fun e W' => ∃ v, e = .returned v ∧ s.post enc C.prog fn apart fresh handsOn again W args v W') :
    ReturnsInHanded a C os f .any (fun w args => (s.pre enc C.prog fn conds apart w args ∧ X w args) ∧ sizedMet enc C.prog fn (OpenSpec.ofChange s) apart w args) (s.post enc C.prog fn apart fresh handsOn again) := by
  refine returnsInHanded_of_calls own started noInit witness ?_
  intro w tape i _ hsh _ hok hpre hholds
  obtain ⟨_, _, _, fn', hfn', _, _, _, _, hval⟩ := hok
  have e : fn' = fn := Option.some.inj (hfn'.symm.trans hfn)
  subst e
  obtain ⟨⟨⟨ds, gs, before, hw, hc⟩, hx⟩, hz⟩ := hpre
  have hw' := DataW.Whole.of_heap (w' := w.forCall tape i) (by rfl) hw
  refine (contract (w.forCall tape i) w.heap.size i.args ds gs before hval hw' hc hsh (hX _ _ _ (by rfl) hx) hholds).mono fun e W' ⟨v, he, hp⟩ => ?_
  subst he
  exact ChangeSpec.post_blind hp
theorem kw_later {W W' : World} (hx : Below W.heap.size W W') (h : W.var? Tryz.prog "loop.example/g00862/impl.kindWords" = some kwCells) : W'.var? Tryz.prog "loop.example/g00862/impl.kindWords" = some kwCells := by
  unfold World.var? at h ⊢
  rw [gKw] at h ⊢
  simp only [Option.bind_some] at h ⊢
  have hg : 0 < W.heap.size := by
    cases hh : W.heap[0]? with
    | none => rw [hh] at h; cases h
    | some o => exact (Array.getElem?_eq_some_iff.1 hh).1
  rw [hx.block _ hg]; exact h
abbrev kwData {H : Type} : DataW H := .agg [.lit (.string []), .lit (.string [105, 110]), .lit (.string [111, 117, 116]), .lit (.string [105, 110, 110, 101, 114])]
theorem kw_reads {H : Type} (enc : TypeId × Value → H) (W : World) (sp : Nat → Bool) : DataW.trod enc Tryz.prog W 0 sp true 3 69 kwCells.toList = some (kwData, []) := by kernel_rfl
/-- The named variable, opened; and read again in a later world. -/
theorem kw_open {H : Type} {enc : TypeId × Value → H} {W : World} {gs : List (DataW H)} {q : List MemPlace} (hW : W.var? Tryz.prog "loop.example/g00862/impl.kindWords" = some kwCells) (hV : DataW.TrodVars enc Tryz.prog W (fun _ => true) ["loop.example/g00862/impl.kindWords"] gs q) : gs = [kwData] ∧ q = MemPlace.row ⟨0, 0, none⟩ 4 ++ [] := by
  obtain ⟨g, t, cs, fuel, d, p', rfl, hg, ht, hvar, hd, rfl⟩ := trodVars_one hV
  obtain rfl := Option.some.inj (gKw.symm.trans hg)
  obtain rfl := Option.some.inj (tKw.symm.trans ht)
  obtain rfl : cs = kwCells := Option.some.inj (hvar.symm.trans hW)
  obtain ⟨rfl, rfl⟩ := DataW.Trod.unique (v := .agg kwCells) ⟨fuel, hd⟩ ⟨3, kw_reads enc W _⟩
  exact ⟨rfl, rfl⟩
theorem kw_again {H : Type} {enc : TypeId × Value → H} {W' : World} {sp : Nat → Bool} (hW : W'.var? Tryz.prog "loop.example/g00862/impl.kindWords" = some kwCells) : DataW.TrodVars enc Tryz.prog W' sp ["loop.example/g00862/impl.kindWords"] [kwData] (MemPlace.row ⟨0, 0, none⟩ 4 ++ []) :=
  ⟨0, 69, kwCells, 3, [], [], gKw, tKw, hW, kw_reads enc W' sp, rfl, rfl⟩
end Go.Proofs.YtcpjhpjlcgcigaaGreatDoor
