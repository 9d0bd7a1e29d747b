/-
  DERIVED. GIVEN WITH THE SEED: THE CARDS: each row of YtlpknhpalcapmaaDoorRows.lean that lists a variable, with what it lists TIED to the program's text (the seventh form; the later family's looks); each row that meets fmt, with fmt's text TOLD by the authors' own Lean function (tested against real Go, not proved from fmt's source: count such statements apart). THE CARD IS WHAT COUNTS. Prove the row's statement (the work); the ties are given (YtlpknhpalcapmaaDoorTie.lean); close each card by the builder's one call (the guide's Derived/Test/ToyasCard.lean, 'card_holds'). Laid BY PROGRAM, IN A SANDBOX (cutbox-door.mjs). By AI agents, Wed Nov 11 2026. No macro, syntax, notation, axiom, sorry.
-/
import Derived.Test.YtlpknhpalcapmaaDoorRows
import GoSem.ClaimSeven
namespace Go.Proofs.YtlpknhpalcapmaaDoor
namespace Rows

/-- THE TIED CARD OF 'hoardinglaw30.PolicyKeys'. -/
def policyKeysCard : Claim7 := { stood := { row := policyKeysRow, standIns := [], harness := (true, "6a48b3f57a4f666510a0a1b7a962c1e604532eb08c96b4b374ece745cee013e2"), looks := false }, kinds := [], alts := [], laidByText := true, laidKinds := [.data, .pinned], laidTests := true, laidLooks := .later }
def PolicyKeysCardSaid : Prop := Claim7.holds Tryd.pinned (.plain (OpenSpec.ofChange policyKeysSpec)) policyKeysCard

/-- THE SECOND FORM's CARD OF 'hoardinglaw30.PolicyKeys'. -/
def policyKeysUptoCard : Claim7 := { stood := { row := policyKeysUptoRow, standIns := [], harness := (true, "6a48b3f57a4f666510a0a1b7a962c1e604532eb08c96b4b374ece745cee013e2"), looks := false }, kinds := [], alts := [], laidByText := true, laidKinds := [.data, .pinned], laidTests := true, laidLooks := .later }
def PolicyKeysUptoCardSaid : Prop := Claim7.holds Tryd.pinned (.plain (OpenSpec.upto policyKeysSpec)) policyKeysUptoCard
end Rows
end Go.Proofs.YtlpknhpalcapmaaDoor
