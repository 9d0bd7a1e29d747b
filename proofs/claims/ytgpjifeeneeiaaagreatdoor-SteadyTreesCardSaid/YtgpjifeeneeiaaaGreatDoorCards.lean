/-
  DERIVED. GIVEN WITH THE SEED: THE CARDS: each row of YtgpjifeeneeiaaaGreatDoorRows.lean that lists a variable, with what it lists TIED to the program's text (the seventh form; the later family's looks); each row that meets fmt, with fmt's text TOLD by the authors' own Lean function (tested against real Go, not proved from fmt's source: count such statements apart). THE CARD IS WHAT COUNTS. Prove the row's statement (the work); the ties are given (YtgpjifeeneeiaaaGreatDoorTie.lean); close each card by the builder's one call (the guide's Derived/Test/ToyasCard.lean, 'card_holds'). Laid BY PROGRAM, IN A SANDBOX (cutbox-door.mjs). By AI agents, Wed Nov 11 2026. No macro, syntax, notation, axiom, sorry.
-/
import Derived.Test.YtgpjifeeneeiaaaGreatDoorRows
import GoSem.ClaimSeven
namespace Go.Proofs.YtgpjifeeneeiaaaGreatDoor
namespace Rows

/-- THE TIED CARD OF 'hoardinglaw28.SteadyTrees'. -/
def steadyTreesCard : Claim7 := { stood := { row := steadyTreesRow, standIns := [], harness := (true, "5b7b5b520c9b7a6145f89f5a57aa0012739d6c0b2cc227bc980e2a8fd682116e"), looks := false }, kinds := [], alts := [], laidByText := true, laidKinds := [.data, .pinned], laidTests := true, laidLooks := .later }
def SteadyTreesCardSaid : Prop := Claim7.holds Tryz.pinned (.plain (OpenSpec.ofChange steadyTreesSpec)) steadyTreesCard

/-- THE TIED CARD OF 'hoardinglaw28.SteadyAlone'. -/
def steadyAloneCard : Claim7 := { stood := { row := steadyAloneRow, standIns := [], harness := (true, "5b7b5b520c9b7a6145f89f5a57aa0012739d6c0b2cc227bc980e2a8fd682116e"), looks := false }, kinds := [], alts := [], laidByText := true, laidKinds := [.data, .pinned], laidTests := true, laidLooks := .later }
def SteadyAloneCardSaid : Prop := Claim7.holds Tryz.pinned (.plain (OpenSpec.ofChange steadyAloneSpec)) steadyAloneCard

/-- THE SECOND FORM's CARD OF 'hoardinglaw28.SteadyTrees'. -/
def steadyTreesUptoCard : Claim7 := { stood := { row := steadyTreesUptoRow, standIns := [], harness := (true, "5b7b5b520c9b7a6145f89f5a57aa0012739d6c0b2cc227bc980e2a8fd682116e"), looks := false }, kinds := [], alts := [], laidByText := true, laidKinds := [.data, .pinned], laidTests := true, laidLooks := .later }
def SteadyTreesUptoCardSaid : Prop := Claim7.holds Tryz.pinned (.plain (OpenSpec.upto steadyTreesSpec)) steadyTreesUptoCard

/-- THE SECOND FORM's CARD OF 'hoardinglaw28.SteadyAlone'. -/
def steadyAloneUptoCard : Claim7 := { stood := { row := steadyAloneUptoRow, standIns := [], harness := (true, "5b7b5b520c9b7a6145f89f5a57aa0012739d6c0b2cc227bc980e2a8fd682116e"), looks := false }, kinds := [], alts := [], laidByText := true, laidKinds := [.data, .pinned], laidTests := true, laidLooks := .later }
def SteadyAloneUptoCardSaid : Prop := Claim7.holds Tryz.pinned (.plain (OpenSpec.upto steadyAloneSpec)) steadyAloneUptoCard
end Rows
end Go.Proofs.YtgpjifeeneeiaaaGreatDoor
