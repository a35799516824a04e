/-
  DERIVED. GIVEN WITH THE SEED: THE CARDS: each row of YtbclmkfibgmgdaaGreatDoorRows.lean that lists a variable, with what it lists TIED to the program's text (the seventh form; the later family's looks); each row that meets fmt, with fmt's text TOLD by the authors' own Lean function (tested against real Go, not proved from fmt's source: count such statements apart). THE CARD IS WHAT COUNTS. Prove the row's statement (the work); the ties are given (YtbclmkfibgmgdaaGreatDoorTie.lean); close each card by the builder's one call (the guide's Derived/Test/ToyasCard.lean, 'card_holds'). Laid BY PROGRAM, IN A SANDBOX (cutbox-door.mjs). By AI agents, Wed Nov 11 2026. No macro, syntax, notation, axiom, sorry.
-/
import Derived.Test.YtbclmkfibgmgdaaGreatDoorRows
import GoSem.ClaimSeven
namespace Go.Proofs.YtbclmkfibgmgdaaGreatDoor
namespace Rows

/-- THE TIED CARD OF 'sibyltop.TopRounds'. -/
def topRoundsCard : Claim7 := { stood := { row := topRoundsRow, standIns := [], harness := (true, "7b5cf162ff2b02afc6fb694b6f8920936ed6b02e385fa031c82b17c1f316ba31"), looks := true }, kinds := [], alts := [], laidByText := true, laidKinds := [.data, .data, .data, .data, .sentinel, .sentinel, .pinned], laidTests := true, laidLooks := .later }
def TopRoundsCardSaid : Prop := Claim7.holds Tryz.pinned (.plain (OpenSpec.ofChange topRoundsSpec)) topRoundsCard

/-- THE SECOND FORM's CARD OF 'sibyltop.TopRounds'. -/
def topRoundsUptoCard : Claim7 := { stood := { row := topRoundsUptoRow, standIns := [], harness := (true, "7b5cf162ff2b02afc6fb694b6f8920936ed6b02e385fa031c82b17c1f316ba31"), looks := true }, kinds := [], alts := [], laidByText := true, laidKinds := [.data, .data, .data, .data, .sentinel, .sentinel, .pinned], laidTests := true, laidLooks := .later }
def TopRoundsUptoCardSaid : Prop := Claim7.holds Tryz.pinned (.plain (OpenSpec.upto topRoundsSpec)) topRoundsUptoCard
end Rows
end Go.Proofs.YtbclmkfibgmgdaaGreatDoor
