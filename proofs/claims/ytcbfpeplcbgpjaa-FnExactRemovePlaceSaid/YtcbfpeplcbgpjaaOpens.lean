/- Arguments of the program's types, opened. No condition. -/
import Derived.Test.YtcbfpeplcbgpjaaOpen
set_option linter.unusedSimpArgs false
set_option linter.unusedVariables false
namespace Go.Proofs.Ytcbfpeplcbgpjaa
open Go.ChangeShapes Go.WideShapes Go.ChangeAt Go.RowKit

set_option maxRecDepth 100000 in
theorem opens_Tr : Opens Try.prog 156 tTr := by
  intro H enc w sp held fuel cs y h
  have hh := DataW.trod_struct Try.underlying156 h
  obtain ⟨xs, n, rfl, _, hl, hxs, hf⟩ := hh
  have hl' : cs.length = 2 := by rw [hl]; kernel_rfl
  have hx : xs.length = 2 := hxs
  match cs, hl' with
  | [c0, c1], _ =>
    obtain ⟨x0, h0⟩ := (opens_sl Try.underlying78 (by kernel_rfl) (by decide) (opens_int Try.underlying3)) H enc w sp held n _ _ ((hf 0 _ rfl).trans (List.getElem?_eq_getElem (by omega)))
    obtain ⟨x1, h1⟩ := (opens_sl Try.underlying78 (by kernel_rfl) (by decide) (opens_int Try.underlying3)) H enc w sp held n _ _ ((hf 1 _ rfl).trans (List.getElem?_eq_getElem (by omega)))
    exact ⟨⟨x0, x1⟩, R_Tr.2 ⟨h0, h1⟩⟩

set_option maxRecDepth 100000 in
theorem opens_NetD : Opens Try.prog 24 tNetD := by
  intro H enc w sp held fuel cs y h
  have hh := DataW.trod_struct Try.underlying24 h
  obtain ⟨xs, n, rfl, _, hl, hxs, hf⟩ := hh
  have hl' : cs.length = 2 := by rw [hl]; kernel_rfl
  have hx : xs.length = 2 := hxs
  match cs, hl' with
  | [c0, c1], _ =>
    obtain ⟨x0, h0⟩ := (opens_int Try.underlying3) H enc w sp held n _ _ ((hf 0 _ rfl).trans (List.getElem?_eq_getElem (by omega)))
    obtain ⟨x1, h1⟩ := (opens_sl Try.underlying22 (by kernel_rfl) (by decide) opens_Tr) H enc w sp held n _ _ ((hf 1 _ rfl).trans (List.getElem?_eq_getElem (by omega)))
    exact ⟨⟨x0, x1⟩, R_NetD.2 ⟨h0, h1⟩⟩

set_option maxRecDepth 100000 in
theorem opens_Sig : Opens Try.prog 164 tSig := by
  intro H enc w sp held fuel cs y h
  have hh := DataW.trod_struct Try.underlying164 h
  obtain ⟨xs, n, rfl, _, hl, hxs, hf⟩ := hh
  have hl' : cs.length = 2 := by rw [hl]; kernel_rfl
  have hx : xs.length = 2 := hxs
  match cs, hl' with
  | [c0, c1], _ =>
    obtain ⟨x0, h0⟩ := (opens_str Try.underlying9) H enc w sp held n _ _ ((hf 0 _ rfl).trans (List.getElem?_eq_getElem (by omega)))
    obtain ⟨x1, h1⟩ := (opens_int Try.underlying3) H enc w sp held n _ _ ((hf 1 _ rfl).trans (List.getElem?_eq_getElem (by omega)))
    exact ⟨⟨x0, x1⟩, R_Sig.2 ⟨h0, h1⟩⟩

set_option maxRecDepth 100000 in
theorem opens_Lab : Opens Try.prog 188 tLab := by
  intro H enc w sp held fuel cs y h
  have hh := DataW.trod_struct Try.underlying188 h
  obtain ⟨xs, n, rfl, _, hl, hxs, hf⟩ := hh
  have hl' : cs.length = 2 := by rw [hl]; kernel_rfl
  have hx : xs.length = 2 := hxs
  match cs, hl' with
  | [c0, c1], _ =>
    obtain ⟨x0, h0⟩ := (opens_int Try.underlying3) H enc w sp held n _ _ ((hf 0 _ rfl).trans (List.getElem?_eq_getElem (by omega)))
    obtain ⟨x1, h1⟩ := (opens_bool Try.underlying4) H enc w sp held n _ _ ((hf 1 _ rfl).trans (List.getElem?_eq_getElem (by omega)))
    exact ⟨⟨x0, x1⟩, R_Lab.2 ⟨h0, h1⟩⟩

set_option maxRecDepth 100000 in
theorem opens_Stg : Opens Try.prog 65 tStg := by
  intro H enc w sp held fuel cs y h
  have hh := DataW.trod_struct Try.underlying65 h
  obtain ⟨xs, n, rfl, _, hl, hxs, hf⟩ := hh
  have hl' : cs.length = 5 := by rw [hl]; kernel_rfl
  have hx : xs.length = 4 := hxs
  match cs, hl' with
  | [c0, c1, c2, c3, c4], _ =>
    obtain ⟨x0, h0⟩ := opens_NetD H enc w sp held n _ _ ((hf 0 _ rfl).trans (List.getElem?_eq_getElem (by omega)))
    obtain ⟨x1, h1⟩ := (opens_sl Try.underlying34 (by kernel_rfl) (by decide) opens_Sig) H enc w sp held n _ _ ((hf 1 _ rfl).trans (List.getElem?_eq_getElem (by omega)))
    obtain ⟨x2, h2⟩ := (opens_sl Try.underlying63 (by kernel_rfl) (by decide) opens_Lab) H enc w sp held n _ _ ((hf 2 _ rfl).trans (List.getElem?_eq_getElem (by omega)))
    obtain ⟨x3, h3⟩ := (opens_str Try.underlying9) H enc w sp held n _ _ ((hf 3 _ rfl).trans (List.getElem?_eq_getElem (by omega)))
    exact ⟨⟨x0, x1, x2, x3⟩, R_Stg.2 ⟨h0, h1, h2, h3⟩⟩

set_option maxRecDepth 100000 in
theorem opens_ArcD : Opens Try.prog 169 tArcD := by
  intro H enc w sp held fuel cs y h
  have hh := DataW.trod_struct Try.underlying169 h
  obtain ⟨xs, n, rfl, _, hl, hxs, hf⟩ := hh
  have hl' : cs.length = 4 := by rw [hl]; kernel_rfl
  have hx : xs.length = 4 := hxs
  match cs, hl' with
  | [c0, c1, c2, c3], _ =>
    obtain ⟨x0, h0⟩ := (opens_int Try.underlying3) H enc w sp held n _ _ ((hf 0 _ rfl).trans (List.getElem?_eq_getElem (by omega)))
    obtain ⟨x1, h1⟩ := (opens_int Try.underlying3) H enc w sp held n _ _ ((hf 1 _ rfl).trans (List.getElem?_eq_getElem (by omega)))
    obtain ⟨x2, h2⟩ := (opens_bool Try.underlying4) H enc w sp held n _ _ ((hf 2 _ rfl).trans (List.getElem?_eq_getElem (by omega)))
    obtain ⟨x3, h3⟩ := (opens_int Try.underlying3) H enc w sp held n _ _ ((hf 3 _ rfl).trans (List.getElem?_eq_getElem (by omega)))
    exact ⟨⟨x0, x1, x2, x3⟩, R_ArcD.2 ⟨h0, h1, h2, h3⟩⟩

set_option maxRecDepth 100000 in
theorem opens_SGraph : Opens Try.prog 38 tSGraph := by
  intro H enc w sp held fuel cs y h
  have hh := DataW.trod_struct Try.underlying38 h
  obtain ⟨xs, n, rfl, _, hl, hxs, hf⟩ := hh
  have hl' : cs.length = 3 := by rw [hl]; kernel_rfl
  have hx : xs.length = 3 := hxs
  match cs, hl' with
  | [c0, c1, c2], _ =>
    obtain ⟨x0, h0⟩ := (opens_sl Try.underlying34 (by kernel_rfl) (by decide) opens_Sig) H enc w sp held n _ _ ((hf 0 _ rfl).trans (List.getElem?_eq_getElem (by omega)))
    obtain ⟨x1, h1⟩ := (opens_sl Try.underlying35 (by kernel_rfl) (by decide) (opens_str Try.underlying9)) H enc w sp held n _ _ ((hf 1 _ rfl).trans (List.getElem?_eq_getElem (by omega)))
    obtain ⟨x2, h2⟩ := (opens_sl Try.underlying36 (by kernel_rfl) (by decide) opens_ArcD) H enc w sp held n _ _ ((hf 2 _ rfl).trans (List.getElem?_eq_getElem (by omega)))
    exact ⟨⟨x0, x1, x2⟩, R_SGraph.2 ⟨h0, h1, h2⟩⟩
end Go.Proofs.Ytcbfpeplcbgpjaa
