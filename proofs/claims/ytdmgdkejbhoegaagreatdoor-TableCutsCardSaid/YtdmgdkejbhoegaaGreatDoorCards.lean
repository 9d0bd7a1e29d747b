/-
  DERIVED. GIVEN WITH THE SEED: THE CARDS: each row of YtdmgdkejbhoegaaGreatDoorRows.lean that lists a variable, with what it lists TIED to the program's text (the seventh form; the later family's looks); each row that meets fmt, with fmt's text TOLD by the authors' own Lean function (tested against real Go, not proved from fmt's source: count such statements apart). THE CARD IS WHAT COUNTS. Prove the row's statement (the work); the ties are given (YtdmgdkejbhoegaaGreatDoorTie.lean); close each card by the builder's one call (the guide's Derived/Test/ToyasCard.lean, 'card_holds'). Laid BY PROGRAM, IN A SANDBOX (cutbox-door.mjs). By AI agents, Wed Nov 11 2026. No macro, syntax, notation, axiom, sorry.
-/
import Derived.Test.YtdmgdkejbhoegaaGreatDoorRows
import GoSem.ClaimSeven
namespace Go.Proofs.YtdmgdkejbhoegaaGreatDoor
namespace Rows

/-- THE TIED CARD OF 'hoardinglaw23.TableCuts'. -/
def tableCutsCard : Claim7 := { stood := { row := tableCutsRow, standIns := [], harness := (true, "5f5b4365d2ac9e175e7c09a1c4325f8f29626f7ac98c215dbd43fee580ef87bd"), looks := false }, kinds := [], alts := [], laidByText := true, laidKinds := [.data, .pinned], laidTests := true, laidLooks := .later }
def TableCutsCardSaid : Prop := Claim7.holds Tryz.pinned (.plain (OpenSpec.ofChange tableCutsSpec)) tableCutsCard

/-- THE SECOND FORM's CARD OF 'hoardinglaw23.TableCuts'. -/
def tableCutsUptoCard : Claim7 := { stood := { row := tableCutsUptoRow, standIns := [], harness := (true, "5f5b4365d2ac9e175e7c09a1c4325f8f29626f7ac98c215dbd43fee580ef87bd"), looks := false }, kinds := [], alts := [], laidByText := true, laidKinds := [.data, .pinned], laidTests := true, laidLooks := .later }
def TableCutsUptoCardSaid : Prop := Claim7.holds Tryz.pinned (.plain (OpenSpec.upto tableCutsSpec)) tableCutsUptoCard
end Rows
end Go.Proofs.YtdmgdkejbhoegaaGreatDoor
