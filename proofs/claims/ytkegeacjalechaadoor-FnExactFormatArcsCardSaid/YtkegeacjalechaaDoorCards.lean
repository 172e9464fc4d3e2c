/-
  DERIVED. GIVEN WITH THE SEED: THE CARDS: each row of YtkegeacjalechaaDoorRows.lean that lists a variable, with what it lists TIED to the program's text (the seventh form; the later family's looks); each row that meets fmt, with fmt's text TOLD by the authors' own Lean function (tested against real Go, not proved from fmt's source: count such statements apart). THE CARD IS WHAT COUNTS. Prove the row's statement (the work); the ties are given (YtkegeacjalechaaDoorTie.lean); close each card by the builder's one call (the guide's Derived/Test/ToyasCard.lean, 'card_holds'). Laid BY PROGRAM, IN A SANDBOX (cutbox-door.mjs). By AI agents, Wed Nov 11 2026. No macro, syntax, notation, axiom, sorry.
-/
import Derived.Test.YtkegeacjalechaaDoorRows
import GoSem.ClaimSeven
namespace Go.Proofs.YtkegeacjalechaaDoor
namespace Rows

/-- THE TIED CARD OF 'laws.FnExactTransitionName'. -/
def fnExactTransitionNameCard : Claim7 := { stood := { row := fnExactTransitionNameRow, standIns := [], harness := (true, "866ce334c3c2fce178807f07d34c36aade2947ac923dd255505c1bcd331b70ef"), looks := false }, kinds := [], alts := [], laidByText := true, laidKinds := [.data, .data, .data], laidTests := true, laidLooks := .later }
def FnExactTransitionNameCardSaid : Prop := Claim7.holds Tryd.pinned (.plain (OpenSpec.ofChange fnExactTransitionNameSpec)) fnExactTransitionNameCard

/-- THE TIED CARD OF 'laws.FnExactTransitionByName'. -/
def fnExactTransitionByNameCard : Claim7 := { stood := { row := fnExactTransitionByNameRow, standIns := [], harness := (true, "866ce334c3c2fce178807f07d34c36aade2947ac923dd255505c1bcd331b70ef"), looks := false }, kinds := [], alts := [], laidByText := true, laidKinds := [.data, .data, .data], laidTests := true, laidLooks := .later }
def FnExactTransitionByNameCardSaid : Prop := Claim7.holds Tryd.pinned (.plain (OpenSpec.ofChange fnExactTransitionByNameSpec)) fnExactTransitionByNameCard

/-- THE TIED CARD OF 'laws.FnExactFormatSTG'. -/
def fnExactFormatSTGCard : Claim7 := { stood := { row := fnExactFormatSTGRow, standIns := [], harness := (true, "866ce334c3c2fce178807f07d34c36aade2947ac923dd255505c1bcd331b70ef"), looks := false }, kinds := [], alts := [], laidByText := true, laidKinds := [.data, .data, .data, .data], laidTests := true, laidLooks := .later }
def FnExactFormatSTGCardSaid : Prop := Claim7.holds Tryd.pinned (.plain (OpenSpec.ofChange fnExactFormatSTGSpec)) fnExactFormatSTGCard

/-- THE TIED CARD OF 'laws.FnExactFormatArcs'. -/
def fnExactFormatArcsCard : Claim7 := { stood := { row := fnExactFormatArcsRow, standIns := [], harness := (true, "866ce334c3c2fce178807f07d34c36aade2947ac923dd255505c1bcd331b70ef"), looks := false }, kinds := [], alts := [], laidByText := true, laidKinds := [.data, .data, .data, .data], laidTests := true, laidLooks := .later }
def FnExactFormatArcsCardSaid : Prop := Claim7.holds Tryd.pinned (.plain (OpenSpec.ofChange fnExactFormatArcsSpec)) fnExactFormatArcsCard

/-- THE SECOND FORM's CARD OF 'laws.FnExactTransitionName'. -/
def fnExactTransitionNameUptoCard : Claim7 := { stood := { row := fnExactTransitionNameUptoRow, standIns := [], harness := (true, "866ce334c3c2fce178807f07d34c36aade2947ac923dd255505c1bcd331b70ef"), looks := false }, kinds := [], alts := [], laidByText := true, laidKinds := [.data, .data, .data], laidTests := true, laidLooks := .later }
def FnExactTransitionNameUptoCardSaid : Prop := Claim7.holds Tryd.pinned (.plain (OpenSpec.upto fnExactTransitionNameSpec)) fnExactTransitionNameUptoCard

/-- THE SECOND FORM's CARD OF 'laws.FnExactTransitionByName'. -/
def fnExactTransitionByNameUptoCard : Claim7 := { stood := { row := fnExactTransitionByNameUptoRow, standIns := [], harness := (true, "866ce334c3c2fce178807f07d34c36aade2947ac923dd255505c1bcd331b70ef"), looks := false }, kinds := [], alts := [], laidByText := true, laidKinds := [.data, .data, .data], laidTests := true, laidLooks := .later }
def FnExactTransitionByNameUptoCardSaid : Prop := Claim7.holds Tryd.pinned (.plain (OpenSpec.upto fnExactTransitionByNameSpec)) fnExactTransitionByNameUptoCard

/-- THE SECOND FORM's CARD OF 'laws.FnExactFormatSTG'. -/
def fnExactFormatSTGUptoCard : Claim7 := { stood := { row := fnExactFormatSTGUptoRow, standIns := [], harness := (true, "866ce334c3c2fce178807f07d34c36aade2947ac923dd255505c1bcd331b70ef"), looks := false }, kinds := [], alts := [], laidByText := true, laidKinds := [.data, .data, .data, .data], laidTests := true, laidLooks := .later }
def FnExactFormatSTGUptoCardSaid : Prop := Claim7.holds Tryd.pinned (.plain (OpenSpec.upto fnExactFormatSTGSpec)) fnExactFormatSTGUptoCard

/-- THE SECOND FORM's CARD OF 'laws.FnExactFormatArcs'. -/
def fnExactFormatArcsUptoCard : Claim7 := { stood := { row := fnExactFormatArcsUptoRow, standIns := [], harness := (true, "866ce334c3c2fce178807f07d34c36aade2947ac923dd255505c1bcd331b70ef"), looks := false }, kinds := [], alts := [], laidByText := true, laidKinds := [.data, .data, .data, .data], laidTests := true, laidLooks := .later }
def FnExactFormatArcsUptoCardSaid : Prop := Claim7.holds Tryd.pinned (.plain (OpenSpec.upto fnExactFormatArcsSpec)) fnExactFormatArcsUptoCard
end Rows
end Go.Proofs.YtkegeacjalechaaDoor
