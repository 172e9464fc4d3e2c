/- Arguments of the program's types, opened. No condition. -/
import Derived.Test.YtkegeacjalechaaDoorOpen
set_option linter.unusedSimpArgs false
set_option linter.unusedVariables false
namespace Go.Proofs.YtkegeacjalechaaDoor
open Go.ChangeShapes Go.WideShapes Go.ChangeAt Go.RowKit

set_option maxRecDepth 100000 in
theorem opens_Tr : Opens Tryd.prog 98 tTr := by
  intro H enc w sp held fuel cs y h
  have hh := DataW.trod_struct Tryd.underlying98 h
  obtain ⟨xs, n, rfl, _, hl, hxs, hf⟩ := hh
  have hl' : cs.length = 2 := by rw [hl]; kernel_rfl
  have hx : xs.length = 2 := hxs
  match cs, hl' with
  | [c0, c1], _ =>
    obtain ⟨x0, h0⟩ := (opens_sl Tryd.underlying61 (by kernel_rfl) (by decide) (opens_int Tryd.underlying3)) H enc w sp held n _ _ ((hf 0 _ rfl).trans (List.getElem?_eq_getElem (by omega)))
    obtain ⟨x1, h1⟩ := (opens_sl Tryd.underlying61 (by kernel_rfl) (by decide) (opens_int Tryd.underlying3)) H enc w sp held n _ _ ((hf 1 _ rfl).trans (List.getElem?_eq_getElem (by omega)))
    exact ⟨⟨x0, x1⟩, R_Tr.2 ⟨h0, h1⟩⟩

set_option maxRecDepth 100000 in
theorem opens_NetD : Opens Tryd.prog 24 tNetD := by
  intro H enc w sp held fuel cs y h
  have hh := DataW.trod_struct Tryd.underlying24 h
  obtain ⟨xs, n, rfl, _, hl, hxs, hf⟩ := hh
  have hl' : cs.length = 2 := by rw [hl]; kernel_rfl
  have hx : xs.length = 2 := hxs
  match cs, hl' with
  | [c0, c1], _ =>
    obtain ⟨x0, h0⟩ := (opens_int Tryd.underlying3) H enc w sp held n _ _ ((hf 0 _ rfl).trans (List.getElem?_eq_getElem (by omega)))
    obtain ⟨x1, h1⟩ := (opens_sl Tryd.underlying22 (by kernel_rfl) (by decide) opens_Tr) H enc w sp held n _ _ ((hf 1 _ rfl).trans (List.getElem?_eq_getElem (by omega)))
    exact ⟨⟨x0, x1⟩, R_NetD.2 ⟨h0, h1⟩⟩

set_option maxRecDepth 100000 in
theorem opens_Sig : Opens Tryd.prog 75 tSig := by
  intro H enc w sp held fuel cs y h
  have hh := DataW.trod_struct Tryd.underlying75 h
  obtain ⟨xs, n, rfl, _, hl, hxs, hf⟩ := hh
  have hl' : cs.length = 2 := by rw [hl]; kernel_rfl
  have hx : xs.length = 2 := hxs
  match cs, hl' with
  | [c0, c1], _ =>
    obtain ⟨x0, h0⟩ := (opens_str Tryd.underlying9) H enc w sp held n _ _ ((hf 0 _ rfl).trans (List.getElem?_eq_getElem (by omega)))
    obtain ⟨x1, h1⟩ := (opens_int Tryd.underlying3) H enc w sp held n _ _ ((hf 1 _ rfl).trans (List.getElem?_eq_getElem (by omega)))
    exact ⟨⟨x0, x1⟩, R_Sig.2 ⟨h0, h1⟩⟩

set_option maxRecDepth 100000 in
theorem opens_Lab : Opens Tryd.prog 86 tLab := by
  intro H enc w sp held fuel cs y h
  have hh := DataW.trod_struct Tryd.underlying86 h
  obtain ⟨xs, n, rfl, _, hl, hxs, hf⟩ := hh
  have hl' : cs.length = 2 := by rw [hl]; kernel_rfl
  have hx : xs.length = 2 := hxs
  match cs, hl' with
  | [c0, c1], _ =>
    obtain ⟨x0, h0⟩ := (opens_int Tryd.underlying3) H enc w sp held n _ _ ((hf 0 _ rfl).trans (List.getElem?_eq_getElem (by omega)))
    obtain ⟨x1, h1⟩ := (opens_bool Tryd.underlying4) H enc w sp held n _ _ ((hf 1 _ rfl).trans (List.getElem?_eq_getElem (by omega)))
    exact ⟨⟨x0, x1⟩, R_Lab.2 ⟨h0, h1⟩⟩

set_option maxRecDepth 100000 in
theorem opens_Stg : Opens Tryd.prog 28 tStg := by
  intro H enc w sp held fuel cs y h
  have hh := DataW.trod_struct Tryd.underlying28 h
  obtain ⟨xs, n, rfl, _, hl, hxs, hf⟩ := hh
  have hl' : cs.length = 5 := by rw [hl]; kernel_rfl
  have hx : xs.length = 4 := hxs
  match cs, hl' with
  | [c0, c1, c2, c3, c4], _ =>
    obtain ⟨x0, h0⟩ := opens_NetD H enc w sp held n _ _ ((hf 0 _ rfl).trans (List.getElem?_eq_getElem (by omega)))
    obtain ⟨x1, h1⟩ := (opens_sl Tryd.underlying25 (by kernel_rfl) (by decide) opens_Sig) H enc w sp held n _ _ ((hf 1 _ rfl).trans (List.getElem?_eq_getElem (by omega)))
    obtain ⟨x2, h2⟩ := (opens_sl Tryd.underlying26 (by kernel_rfl) (by decide) opens_Lab) H enc w sp held n _ _ ((hf 2 _ rfl).trans (List.getElem?_eq_getElem (by omega)))
    obtain ⟨x3, h3⟩ := (opens_str Tryd.underlying9) H enc w sp held n _ _ ((hf 3 _ rfl).trans (List.getElem?_eq_getElem (by omega)))
    exact ⟨⟨x0, x1, x2, x3⟩, R_Stg.2 ⟨h0, h1, h2, h3⟩⟩
end Go.Proofs.YtkegeacjalechaaDoor
