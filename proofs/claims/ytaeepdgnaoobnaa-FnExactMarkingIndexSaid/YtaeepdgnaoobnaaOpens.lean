/- Arguments of the program's types, opened. No condition. -/
import Derived.Test.YtaeepdgnaoobnaaOpen
namespace Go.Proofs.Ytaeepdgnaoobnaa
open Go.ChangeShapes Go.WideShapes Go.ChangeAt Go.RowKit

set_option maxRecDepth 100000 in
theorem opens_Tr : Opens Try.prog 96 tTr := by
  intro H enc w sp held fuel cs y h
  have hh := DataW.trod_struct Try.underlying96 h
  obtain ⟨xs, n, rfl, _, hl, hxs, hf⟩ := hh
  have hl' : cs.length = 2 := by rw [hl]; kernel_rfl
  have hx : xs.length = 2 := hxs
  match cs, hl' with
  | [c0, c1], _ =>
    obtain ⟨x0, h0⟩ := (opens_sl Try.underlying67 (by kernel_rfl) (by decide) (opens_int Try.underlying3)) H enc w sp held n _ _ ((hf 0 _ rfl).trans (List.getElem?_eq_getElem (by omega)))
    obtain ⟨x1, h1⟩ := (opens_sl Try.underlying67 (by kernel_rfl) (by decide) (opens_int Try.underlying3)) H enc w sp held n _ _ ((hf 1 _ rfl).trans (List.getElem?_eq_getElem (by omega)))
    exact ⟨⟨x0, x1⟩, R_Tr.2 ⟨h0, h1⟩⟩

set_option maxRecDepth 100000 in
theorem opens_NetD : Opens Try.prog 25 tNetD := by
  intro H enc w sp held fuel cs y h
  have hh := DataW.trod_struct Try.underlying25 h
  obtain ⟨xs, n, rfl, _, hl, hxs, hf⟩ := hh
  have hl' : cs.length = 2 := by rw [hl]; kernel_rfl
  have hx : xs.length = 2 := hxs
  match cs, hl' with
  | [c0, c1], _ =>
    obtain ⟨x0, h0⟩ := (opens_int Try.underlying3) H enc w sp held n _ _ ((hf 0 _ rfl).trans (List.getElem?_eq_getElem (by omega)))
    obtain ⟨x1, h1⟩ := (opens_sl Try.underlying23 (by kernel_rfl) (by decide) opens_Tr) H enc w sp held n _ _ ((hf 1 _ rfl).trans (List.getElem?_eq_getElem (by omega)))
    exact ⟨⟨x0, x1⟩, R_NetD.2 ⟨h0, h1⟩⟩

set_option maxRecDepth 100000 in
theorem opens_Sig : Opens Try.prog 105 tSig := by
  intro H enc w sp held fuel cs y h
  have hh := DataW.trod_struct Try.underlying105 h
  obtain ⟨xs, n, rfl, _, hl, hxs, hf⟩ := hh
  have hl' : cs.length = 2 := by rw [hl]; kernel_rfl
  have hx : xs.length = 2 := hxs
  match cs, hl' with
  | [c0, c1], _ =>
    obtain ⟨x0, h0⟩ := (opens_str Try.underlying9) H enc w sp held n _ _ ((hf 0 _ rfl).trans (List.getElem?_eq_getElem (by omega)))
    obtain ⟨x1, h1⟩ := (opens_int Try.underlying3) H enc w sp held n _ _ ((hf 1 _ rfl).trans (List.getElem?_eq_getElem (by omega)))
    exact ⟨⟨x0, x1⟩, R_Sig.2 ⟨h0, h1⟩⟩

set_option maxRecDepth 100000 in
theorem opens_Mv : Opens Try.prog 101 tMv := by
  intro H enc w sp held fuel cs y h
  have hh := DataW.trod_struct Try.underlying101 h
  obtain ⟨xs, n, rfl, _, hl, hxs, hf⟩ := hh
  have hl' : cs.length = 3 := by rw [hl]; kernel_rfl
  have hx : xs.length = 3 := hxs
  match cs, hl' with
  | [c0, c1, c2], _ =>
    obtain ⟨x0, h0⟩ := (opens_int Try.underlying3) H enc w sp held n _ _ ((hf 0 _ rfl).trans (List.getElem?_eq_getElem (by omega)))
    obtain ⟨x1, h1⟩ := (opens_int Try.underlying3) H enc w sp held n _ _ ((hf 1 _ rfl).trans (List.getElem?_eq_getElem (by omega)))
    obtain ⟨x2, h2⟩ := (opens_int Try.underlying3) H enc w sp held n _ _ ((hf 2 _ rfl).trans (List.getElem?_eq_getElem (by omega)))
    exact ⟨⟨x0, x1, x2⟩, R_Mv.2 ⟨h0, h1, h2⟩⟩

set_option maxRecDepth 100000 in
theorem opens_RGraph : Opens Try.prog 37 tRGraph := by
  intro H enc w sp held fuel cs y h
  have hh := DataW.trod_struct Try.underlying37 h
  obtain ⟨xs, n, rfl, _, hl, hxs, hf⟩ := hh
  have hl' : cs.length = 2 := by rw [hl]; kernel_rfl
  have hx : xs.length = 2 := hxs
  match cs, hl' with
  | [c0, c1], _ =>
    obtain ⟨x0, h0⟩ := (opens_sl Try.underlying34 (by kernel_rfl) (by decide) (opens_str Try.underlying9)) H enc w sp held n _ _ ((hf 0 _ rfl).trans (List.getElem?_eq_getElem (by omega)))
    obtain ⟨x1, h1⟩ := (opens_sl Try.underlying35 (by kernel_rfl) (by decide) opens_Mv) H enc w sp held n _ _ ((hf 1 _ rfl).trans (List.getElem?_eq_getElem (by omega)))
    exact ⟨⟨x0, x1⟩, R_RGraph.2 ⟨h0, h1⟩⟩

set_option maxRecDepth 100000 in
theorem opens_ArcD : Opens Try.prog 108 tArcD := by
  intro H enc w sp held fuel cs y h
  have hh := DataW.trod_struct Try.underlying108 h
  obtain ⟨xs, n, rfl, _, hl, hxs, hf⟩ := hh
  have hl' : cs.length = 4 := by rw [hl]; kernel_rfl
  have hx : xs.length = 4 := hxs
  match cs, hl' with
  | [c0, c1, c2, c3], _ =>
    obtain ⟨x0, h0⟩ := (opens_int Try.underlying3) H enc w sp held n _ _ ((hf 0 _ rfl).trans (List.getElem?_eq_getElem (by omega)))
    obtain ⟨x1, h1⟩ := (opens_int Try.underlying3) H enc w sp held n _ _ ((hf 1 _ rfl).trans (List.getElem?_eq_getElem (by omega)))
    obtain ⟨x2, h2⟩ := (opens_bool Try.underlying4) H enc w sp held n _ _ ((hf 2 _ rfl).trans (List.getElem?_eq_getElem (by omega)))
    obtain ⟨x3, h3⟩ := (opens_int Try.underlying3) H enc w sp held n _ _ ((hf 3 _ rfl).trans (List.getElem?_eq_getElem (by omega)))
    exact ⟨⟨x0, x1, x2, x3⟩, R_ArcD.2 ⟨h0, h1, h2, h3⟩⟩

set_option maxRecDepth 100000 in
theorem opens_SGraph : Opens Try.prog 54 tSGraph := by
  intro H enc w sp held fuel cs y h
  have hh := DataW.trod_struct Try.underlying54 h
  obtain ⟨xs, n, rfl, _, hl, hxs, hf⟩ := hh
  have hl' : cs.length = 3 := by rw [hl]; kernel_rfl
  have hx : xs.length = 3 := hxs
  match cs, hl' with
  | [c0, c1, c2], _ =>
    obtain ⟨x0, h0⟩ := (opens_sl Try.underlying51 (by kernel_rfl) (by decide) opens_Sig) H enc w sp held n _ _ ((hf 0 _ rfl).trans (List.getElem?_eq_getElem (by omega)))
    obtain ⟨x1, h1⟩ := (opens_sl Try.underlying34 (by kernel_rfl) (by decide) (opens_str Try.underlying9)) H enc w sp held n _ _ ((hf 1 _ rfl).trans (List.getElem?_eq_getElem (by omega)))
    obtain ⟨x2, h2⟩ := (opens_sl Try.underlying52 (by kernel_rfl) (by decide) opens_ArcD) H enc w sp held n _ _ ((hf 2 _ rfl).trans (List.getElem?_eq_getElem (by omega)))
    exact ⟨⟨x0, x1, x2⟩, R_SGraph.2 ⟨h0, h1, h2⟩⟩
end Go.Proofs.Ytaeepdgnaoobnaa
