/-
  DERIVED. GIVEN WITH THE SEED: THE CARDS: each row of YtcpjhpjlcgcigaaGreatDoorRows.lean that lists a variable, with what it lists TIED to the program's text (the seventh form; the later family's looks); each row that meets fmt, with fmt's text TOLD by the authors' own Lean function (tested against real Go, not proved from fmt's source: count such statements apart). THE CARD IS WHAT COUNTS. Prove the row's statement (the work); the ties are given (YtcpjhpjlcgcigaaGreatDoorTie.lean); close each card by the builder's one call (the guide's Derived/Test/ToyasCard.lean, 'card_holds'). Laid BY PROGRAM, IN A SANDBOX (cutbox-door.mjs). By AI agents, Wed Nov 11 2026. No macro, syntax, notation, axiom, sorry.
-/
import Derived.Test.YtcpjhpjlcgcigaaGreatDoorRows
import GoSem.ClaimSeven
namespace Go.Proofs.YtcpjhpjlcgcigaaGreatDoor
namespace Rows

/-- THE TIED CARD OF 'laws.FnExactParseSTG'. -/
def fnExactParseSTGCard : Claim7 := { stood := { row := fnExactParseSTGRow, standIns := [], harness := (true, "115d73782e2a9429333288601af4411ce3bbef9e80de1c5359d201e19160d320"), looks := true }, kinds := [], alts := [], laidByText := true, laidKinds := [.data, .data, .data, .data, .sentinel, .sentinel, .data, .pinned], laidTests := true, laidLooks := .later }
def FnExactParseSTGCardSaid : Prop := Claim7.holds Tryz.pinned (.plain (OpenSpec.ofChange fnExactParseSTGSpec)) fnExactParseSTGCard

/-- THE SECOND FORM's CARD OF 'laws.FnExactParseSTG'. -/
def fnExactParseSTGUptoCard : Claim7 := { stood := { row := fnExactParseSTGUptoRow, standIns := [], harness := (true, "115d73782e2a9429333288601af4411ce3bbef9e80de1c5359d201e19160d320"), looks := true }, kinds := [], alts := [], laidByText := true, laidKinds := [.data, .data, .data, .data, .sentinel, .sentinel, .data, .pinned], laidTests := true, laidLooks := .later }
def FnExactParseSTGUptoCardSaid : Prop := Claim7.holds Tryz.pinned (.plain (OpenSpec.upto fnExactParseSTGSpec)) fnExactParseSTGUptoCard
end Rows
end Go.Proofs.YtcpjhpjlcgcigaaGreatDoor
