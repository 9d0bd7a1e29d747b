/-
  DERIVED. GIVEN WITH THE SEED: THE CARDS: each row of YtfgdcciaecajpaaGreatDoorRows.lean that lists a variable, with what it lists TIED to the program's text (the seventh form; the later family's looks); each row that meets fmt, with fmt's text TOLD by the authors' own Lean function (tested against real Go, not proved from fmt's source: count such statements apart). THE CARD IS WHAT COUNTS. Prove the row's statement (the work); the ties are given (YtfgdcciaecajpaaGreatDoorTie.lean); close each card by the builder's one call (the guide's Derived/Test/ToyasCard.lean, 'card_holds'). Laid BY PROGRAM, IN A SANDBOX (cutbox-door.mjs). By AI agents, Wed Nov 11 2026. No macro, syntax, notation, axiom, sorry.
-/
import Derived.Test.YtfgdcciaecajpaaGreatDoorRows
import GoSem.ClaimSeven
namespace Go.Proofs.YtfgdcciaecajpaaGreatDoor
namespace Rows

/-- THE TIED CARD OF 'hoardinglaw25.EarlyMoves'. -/
def earlyMovesCard : Claim7 := { stood := { row := earlyMovesRow, standIns := [], harness := (true, "b798172a2586c964be26513bd079224c7f21419a651fdc9eba619a41ec0f9a4f"), looks := false }, kinds := [], alts := [], laidByText := true, laidKinds := [.data, .pinned], laidTests := true, laidLooks := .later }
def EarlyMovesCardSaid : Prop := Claim7.holds Tryz.pinned (.plain (OpenSpec.ofChange earlyMovesSpec)) earlyMovesCard

/-- THE SECOND FORM's CARD OF 'hoardinglaw25.EarlyMoves'. -/
def earlyMovesUptoCard : Claim7 := { stood := { row := earlyMovesUptoRow, standIns := [], harness := (true, "b798172a2586c964be26513bd079224c7f21419a651fdc9eba619a41ec0f9a4f"), looks := false }, kinds := [], alts := [], laidByText := true, laidKinds := [.data, .pinned], laidTests := true, laidLooks := .later }
def EarlyMovesUptoCardSaid : Prop := Claim7.holds Tryz.pinned (.plain (OpenSpec.upto earlyMovesSpec)) earlyMovesUptoCard
end Rows
end Go.Proofs.YtfgdcciaecajpaaGreatDoor
