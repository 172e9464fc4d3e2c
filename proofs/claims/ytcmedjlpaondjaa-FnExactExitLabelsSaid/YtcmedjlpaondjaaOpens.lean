/- Arguments of the program's types, opened. No condition. -/
import Derived.Test.YtcmedjlpaondjaaOpen
set_option linter.unusedSimpArgs false
set_option linter.unusedVariables false
namespace Go.Proofs.Ytcmedjlpaondjaa
open Go.ChangeShapes Go.WideShapes Go.ChangeAt Go.RowKit

set_option maxRecDepth 100000 in
theorem opens_Sig : Opens Try.prog 105 tSig := by
  intro H enc w sp held fuel cs y h
  have hh := DataW.trod_struct Try.underlying105 h
  obtain ⟨xs, n, rfl, _, hl, hxs, hf⟩ := hh
  have hl' : cs.length = 2 := by rw [hl]; kernel_rfl
  have hx : xs.length = 2 := hxs
  match cs, hl' with
  | [c0, c1], _ =>
    obtain ⟨x0, h0⟩ := (opens_str Try.underlying9) H enc w sp held n _ _ ((hf 0 _ rfl).trans (List.getElem?_eq_getElem (by omega)))
    obtain ⟨x1, h1⟩ := (opens_int Try.underlying3) H enc w sp held n _ _ ((hf 1 _ rfl).trans (List.getElem?_eq_getElem (by omega)))
    exact ⟨⟨x0, x1⟩, R_Sig.2 ⟨h0, h1⟩⟩

set_option maxRecDepth 100000 in
theorem opens_ArcD : Opens Try.prog 122 tArcD := by
  intro H enc w sp held fuel cs y h
  have hh := DataW.trod_struct Try.underlying122 h
  obtain ⟨xs, n, rfl, _, hl, hxs, hf⟩ := hh
  have hl' : cs.length = 4 := by rw [hl]; kernel_rfl
  have hx : xs.length = 4 := hxs
  match cs, hl' with
  | [c0, c1, c2, c3], _ =>
    obtain ⟨x0, h0⟩ := (opens_int Try.underlying3) H enc w sp held n _ _ ((hf 0 _ rfl).trans (List.getElem?_eq_getElem (by omega)))
    obtain ⟨x1, h1⟩ := (opens_int Try.underlying3) H enc w sp held n _ _ ((hf 1 _ rfl).trans (List.getElem?_eq_getElem (by omega)))
    obtain ⟨x2, h2⟩ := (opens_bool Try.underlying4) H enc w sp held n _ _ ((hf 2 _ rfl).trans (List.getElem?_eq_getElem (by omega)))
    obtain ⟨x3, h3⟩ := (opens_int Try.underlying3) H enc w sp held n _ _ ((hf 3 _ rfl).trans (List.getElem?_eq_getElem (by omega)))
    exact ⟨⟨x0, x1, x2, x3⟩, R_ArcD.2 ⟨h0, h1, h2, h3⟩⟩

set_option maxRecDepth 100000 in
theorem opens_SGraph : Opens Try.prog 26 tSGraph := by
  intro H enc w sp held fuel cs y h
  have hh := DataW.trod_struct Try.underlying26 h
  obtain ⟨xs, n, rfl, _, hl, hxs, hf⟩ := hh
  have hl' : cs.length = 3 := by rw [hl]; kernel_rfl
  have hx : xs.length = 3 := hxs
  match cs, hl' with
  | [c0, c1, c2], _ =>
    obtain ⟨x0, h0⟩ := (opens_sl Try.underlying22 (by kernel_rfl) (by decide) opens_Sig) H enc w sp held n _ _ ((hf 0 _ rfl).trans (List.getElem?_eq_getElem (by omega)))
    obtain ⟨x1, h1⟩ := (opens_sl Try.underlying23 (by kernel_rfl) (by decide) (opens_str Try.underlying9)) H enc w sp held n _ _ ((hf 1 _ rfl).trans (List.getElem?_eq_getElem (by omega)))
    obtain ⟨x2, h2⟩ := (opens_sl Try.underlying24 (by kernel_rfl) (by decide) opens_ArcD) H enc w sp held n _ _ ((hf 2 _ rfl).trans (List.getElem?_eq_getElem (by omega)))
    exact ⟨⟨x0, x1, x2⟩, R_SGraph.2 ⟨h0, h1, h2⟩⟩

set_option maxRecDepth 100000 in
theorem opens_PViol : Opens Try.prog 28 tPViol := by
  intro H enc w sp held fuel cs y h
  have hh := DataW.trod_struct Try.underlying28 h
  obtain ⟨xs, n, rfl, _, hl, hxs, hf⟩ := hh
  have hl' : cs.length = 3 := by rw [hl]; kernel_rfl
  have hx : xs.length = 3 := hxs
  match cs, hl' with
  | [c0, c1, c2], _ =>
    obtain ⟨x0, h0⟩ := (opens_int Try.underlying3) H enc w sp held n _ _ ((hf 0 _ rfl).trans (List.getElem?_eq_getElem (by omega)))
    obtain ⟨x1, h1⟩ := (opens_int Try.underlying3) H enc w sp held n _ _ ((hf 1 _ rfl).trans (List.getElem?_eq_getElem (by omega)))
    obtain ⟨x2, h2⟩ := (opens_int Try.underlying3) H enc w sp held n _ _ ((hf 2 _ rfl).trans (List.getElem?_eq_getElem (by omega)))
    exact ⟨⟨x0, x1, x2⟩, R_PViol.2 ⟨h0, h1, h2⟩⟩
end Go.Proofs.Ytcmedjlpaondjaa
