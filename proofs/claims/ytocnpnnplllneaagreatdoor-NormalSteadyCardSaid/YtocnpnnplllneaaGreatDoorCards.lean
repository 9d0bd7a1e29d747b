/-
  DERIVED. GIVEN WITH THE SEED: THE CARDS: each row of YtocnpnnplllneaaGreatDoorRows.lean that lists a variable, with what it lists TIED to the program's text (the seventh form; the later family's looks); each row that meets fmt, with fmt's text TOLD by the authors' own Lean function (tested against real Go, not proved from fmt's source: count such statements apart). THE CARD IS WHAT COUNTS. Prove the row's statement (the work); the ties are given (YtocnpnnplllneaaGreatDoorTie.lean); close each card by the builder's one call (the guide's Derived/Test/ToyasCard.lean, 'card_holds'). Laid BY PROGRAM, IN A SANDBOX (cutbox-door.mjs). By AI agents, Wed Nov 11 2026. No macro, syntax, notation, axiom, sorry.
-/
import Derived.Test.YtocnpnnplllneaaGreatDoorRows
import GoSem.ClaimSeven
namespace Go.Proofs.YtocnpnnplllneaaGreatDoor
namespace Rows

/-- THE TIED CARD OF 'hoardinglaw34.NormalTells'. -/
def normalTellsCard : Claim7 := { stood := { row := normalTellsRow, standIns := [], harness := (true, "d8001e4d882ee47c288f00cbdf003ca94d9badc1538880699b7751870510fff7"), looks := false }, kinds := [], alts := [], laidByText := true, laidKinds := [.data, .pinned], laidTests := true, laidLooks := .later }
def NormalTellsCardSaid : Prop := Claim7.holds Tryz.pinned (.plain (OpenSpec.ofChange normalTellsSpec)) normalTellsCard

/-- THE TIED CARD OF 'hoardinglaw34.NormalSteady'. -/
def normalSteadyCard : Claim7 := { stood := { row := normalSteadyRow, standIns := [], harness := (true, "d8001e4d882ee47c288f00cbdf003ca94d9badc1538880699b7751870510fff7"), looks := false }, kinds := [], alts := [], laidByText := true, laidKinds := [.data, .pinned], laidTests := true, laidLooks := .later }
def NormalSteadyCardSaid : Prop := Claim7.holds Tryz.pinned (.plain (OpenSpec.ofChange normalSteadySpec)) normalSteadyCard

/-- THE TIED CARD OF 'hoardinglaw34.NormalKeeps'. -/
def normalKeepsCard : Claim7 := { stood := { row := normalKeepsRow, standIns := [], harness := (true, "d8001e4d882ee47c288f00cbdf003ca94d9badc1538880699b7751870510fff7"), looks := false }, kinds := [], alts := [], laidByText := true, laidKinds := [.data, .pinned], laidTests := true, laidLooks := .later }
def NormalKeepsCardSaid : Prop := Claim7.holds Tryz.pinned (.plain (OpenSpec.ofChange normalKeepsSpec)) normalKeepsCard

/-- THE SECOND FORM's CARD OF 'hoardinglaw34.NormalTells'. -/
def normalTellsUptoCard : Claim7 := { stood := { row := normalTellsUptoRow, standIns := [], harness := (true, "d8001e4d882ee47c288f00cbdf003ca94d9badc1538880699b7751870510fff7"), looks := false }, kinds := [], alts := [], laidByText := true, laidKinds := [.data, .pinned], laidTests := true, laidLooks := .later }
def NormalTellsUptoCardSaid : Prop := Claim7.holds Tryz.pinned (.plain (OpenSpec.upto normalTellsSpec)) normalTellsUptoCard

/-- THE SECOND FORM's CARD OF 'hoardinglaw34.NormalSteady'. -/
def normalSteadyUptoCard : Claim7 := { stood := { row := normalSteadyUptoRow, standIns := [], harness := (true, "d8001e4d882ee47c288f00cbdf003ca94d9badc1538880699b7751870510fff7"), looks := false }, kinds := [], alts := [], laidByText := true, laidKinds := [.data, .pinned], laidTests := true, laidLooks := .later }
def NormalSteadyUptoCardSaid : Prop := Claim7.holds Tryz.pinned (.plain (OpenSpec.upto normalSteadySpec)) normalSteadyUptoCard

/-- THE SECOND FORM's CARD OF 'hoardinglaw34.NormalKeeps'. -/
def normalKeepsUptoCard : Claim7 := { stood := { row := normalKeepsUptoRow, standIns := [], harness := (true, "d8001e4d882ee47c288f00cbdf003ca94d9badc1538880699b7751870510fff7"), looks := false }, kinds := [], alts := [], laidByText := true, laidKinds := [.data, .pinned], laidTests := true, laidLooks := .later }
def NormalKeepsUptoCardSaid : Prop := Claim7.holds Tryz.pinned (.plain (OpenSpec.upto normalKeepsSpec)) normalKeepsUptoCard
end Rows
end Go.Proofs.YtocnpnnplllneaaGreatDoor
