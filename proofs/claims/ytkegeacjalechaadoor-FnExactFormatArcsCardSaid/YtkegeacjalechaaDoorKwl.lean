/- The package's table of words: what the rows' condition gives, and that it reads behind the call as before. No condition. -/
import Derived.Test.YtkegeacjalechaaDoorFst
import Derived.Test.YtkegeacjalechaaDoorRows
import Derived.MakeChecks
import Derived.OpenShut
import Derived.ChangeVars
import Derived.ChangeArms
import Derived.RowKit
set_option linter.unusedSimpArgs false
set_option linter.unusedVariables false
namespace Go.Proofs.YtkegeacjalechaaDoor
open Go.ChangeShapes Go.WideShapes Go.ChangeAt Go.RowKit

theorem gKw : Tryd.prog.globalNamed "loop.example/g00862/impl.kindWords" = some 0 := by kernel_rfl
theorem tKw : (Tryd.prog.globals[0]?).map (·.type) = some 94 := by kernel_rfl
def kwCells : Array Value := #[.string (kwB 0), .string (kwB 1), .string (kwB 2), .string (kwB 3)]
theorem kw_str {H : Type} {enc : TypeId × Value → H} {W : World} {sp : Nat → Bool} {held : Bool} {m : Nat} {cs : List Value} {x : DataW H × List MemPlace} {l : List UInt8} (h : DataW.trod enc Tryd.prog W 0 sp held m 9 cs = some x) (hx : x.1 = .lit (.string l)) : cs = [.string ⟨l.toArray⟩] := by
  obtain ⟨s, rfl, rfl, _⟩ := DataW.trod_string Tryd.underlying9 h
  simp only [DataW.lit.injEq, Lit.string.injEq] at hx
  subst hx
  simp
set_option maxRecDepth 100000 in
theorem kw_read {W : World} {sp : Nat → Bool} {held : Bool} {fuel : Nat} {cs : Array Value} {p : List MemPlace} (h : DataW.trod (H := Unit) (fun _ => ()) Tryd.prog W 0 sp held fuel 94 cs.toList = some (Rows.laid_loop_example_g00862_impl_kindWords, p)) : cs = kwCells := by
  obtain ⟨xs, m, rfl, hx, hlen, hn, hel⟩ := DataW.trod_array Tryd.underlying94 h
  have c9 : Tryd.prog.cellsOf 9 = 1 := by kernel_rfl
  have c94 : Tryd.prog.cellsOf 94 = 4 := by kernel_rfl
  rw [c94] at hlen
  rw [c9] at hel
  have hx := congrArg Prod.fst hx
  simp only [Rows.laid_loop_example_g00862_impl_kindWords, DataW.agg.injEq] at hx
  obtain ⟨l⟩ := cs
  match xs, hn, l, hlen with
  | [x0, x1, x2, x3], _, [d0, d1, d2, d3], _ =>
    simp only [List.map_cons, List.map_nil, List.cons.injEq, and_true] at hx
    obtain ⟨y0, y1, y2, y3⟩ := hx
    have h0 := kw_str (show DataW.trod _ Tryd.prog W 0 sp held m 9 [d0] = some x0 from hel 0 (by omega)) y0.symm
    have h1 := kw_str (show DataW.trod _ Tryd.prog W 0 sp held m 9 [d1] = some x1 from hel 1 (by omega)) y1.symm
    have h2 := kw_str (show DataW.trod _ Tryd.prog W 0 sp held m 9 [d2] = some x2 from hel 2 (by omega)) y2.symm
    have h3 := kw_str (show DataW.trod _ Tryd.prog W 0 sp held m 9 [d3] = some x3 from hel 3 (by omega)) y3.symm
    simp only [List.cons.injEq, and_true] at h0 h1 h2 h3
    subst h0; subst h1; subst h2; subst h3
    rfl
/-- What the condition says of the table. -/
theorem kw_var {W : World} (h : laidMetH Tryd.prog [("math/bits.deBruijn32tab", Rows.laid_math_bits_deBruijn32tab), ("math/bits.deBruijn64tab", Rows.laid_math_bits_deBruijn64tab), ("internal/strconv.uint64pow10", Rows.laid_internal_strconv_uint64pow10), ("loop.example/g00862/impl.kindWords", Rows.laid_loop_example_g00862_impl_kindWords)] W) : W.var? Tryd.prog "loop.example/g00862/impl.kindWords" = some kwCells := by
  rw [MakeChecks.laidMetH_plain _ _ _ (by kernel_rfl)] at h
  obtain ⟨ps, hl, _⟩ := h
  obtain ⟨_, _, _, _, _, _, _, _, _, _, hl, _⟩ := hl
  obtain ⟨_, _, _, _, _, _, _, _, _, _, hl, _⟩ := hl
  obtain ⟨_, _, _, _, _, _, _, _, _, _, hl, _⟩ := hl
  obtain ⟨g, t, cs, fuel, p, q, hg, ht, hv, hd, _, _⟩ := hl
  obtain rfl := Option.some.inj (gKw.symm.trans hg)
  obtain rfl := Option.some.inj (tKw.symm.trans ht)
  rw [hv, kw_read hd]
theorem kw_KW {W : World} (h : W.var? Tryd.prog "loop.example/g00862/impl.kindWords" = some kwCells) : KW W := by
  intro j hj
  rw [World.var?_cell gKw h j]
  have : j = 0 ∨ j = 1 ∨ j = 2 ∨ j = 3 := by omega
  rcases this with rfl | rfl | rfl | rfl <;> rfl
theorem kw_later {W W' : World} (hx : Below W.heap.size W W') (h : W.var? Tryd.prog "loop.example/g00862/impl.kindWords" = some kwCells) : W'.var? Tryd.prog "loop.example/g00862/impl.kindWords" = some kwCells := by
  unfold World.var? at h ⊢
  rw [gKw] at h ⊢
  simp only [Option.bind_some] at h ⊢
  have hg : 0 < W.heap.size := by
    cases hh : W.heap[0]? with
    | none => rw [hh] at h; cases h
    | some o => exact (Array.getElem?_eq_some_iff.1 hh).1
  rw [hx.block _ hg]; exact h
abbrev kwData {H : Type} : DataW H := .agg [.lit (.string []), .lit (.string [105, 110]), .lit (.string [111, 117, 116]), .lit (.string [105, 110, 110, 101, 114])]
theorem kw_reads {H : Type} (enc : TypeId × Value → H) (W : World) (sp : Nat → Bool) : DataW.trod enc Tryd.prog W 0 sp true 3 94 kwCells.toList = some (kwData, []) := by kernel_rfl
/-- The named variable, opened; and read again in a later world. -/
theorem kw_open {H : Type} {enc : TypeId × Value → H} {W : World} {gs : List (DataW H)} {q : List MemPlace} (hW : W.var? Tryd.prog "loop.example/g00862/impl.kindWords" = some kwCells) (hV : DataW.TrodVars enc Tryd.prog W (fun _ => true) ["loop.example/g00862/impl.kindWords"] gs q) : gs = [kwData] ∧ q = MemPlace.row ⟨0, 0, none⟩ 4 ++ [] := by
  obtain ⟨g, t, cs, fuel, d, p', rfl, hg, ht, hvar, hd, rfl⟩ := trodVars_one hV
  obtain rfl := Option.some.inj (gKw.symm.trans hg)
  obtain rfl := Option.some.inj (tKw.symm.trans ht)
  obtain rfl : cs = kwCells := Option.some.inj (hvar.symm.trans hW)
  obtain ⟨rfl, rfl⟩ := DataW.Trod.unique (v := .agg kwCells) ⟨fuel, hd⟩ ⟨3, kw_reads enc W _⟩
  exact ⟨rfl, rfl⟩
theorem kw_again {H : Type} {enc : TypeId × Value → H} {W' : World} {sp : Nat → Bool} (hW : W'.var? Tryd.prog "loop.example/g00862/impl.kindWords" = some kwCells) : DataW.TrodVars enc Tryd.prog W' sp ["loop.example/g00862/impl.kindWords"] [kwData] (MemPlace.row ⟨0, 0, none⟩ 4 ++ []) :=
  ⟨0, 94, kwCells, 3, [], [], gKw, tKw, hW, kw_reads enc W' sp, rfl, rfl⟩
end Go.Proofs.YtkegeacjalechaaDoor
