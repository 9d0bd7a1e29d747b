/-
  DERIVED. GIVEN WITH THE SEED: THE CARDS: each row of YtnnjamopknlnbaaDoorRows.lean that lists a variable, with what it lists TIED to the program's text (the seventh form; the later family's looks); each row that meets fmt, with fmt's text TOLD by the authors' own Lean function (tested against real Go, not proved from fmt's source: count such statements apart). THE CARD IS WHAT COUNTS. Prove the row's statement (the work); the ties are given (YtnnjamopknlnbaaDoorTie.lean); close each card by the builder's one call (the guide's Derived/Test/ToyasCard.lean, 'card_holds'). Laid BY PROGRAM, IN A SANDBOX (cutbox-door.mjs). By AI agents, Wed Nov 11 2026. No macro, syntax, notation, axiom, sorry.
-/
import Derived.Test.YtnnjamopknlnbaaDoorRows
import GoSem.ClaimSeven
namespace Go.Proofs.YtnnjamopknlnbaaDoor
namespace Rows

/-- THE TIED CARD OF 'hoardinglaw30.PolicyTells'. -/
def policyTellsCard : Claim7 := { stood := { row := policyTellsRow, standIns := [], harness := (true, "1da0fbe637c595b4887d6895c2643ebf52bf895b4a5f564c3f97b3737f1ece27"), looks := false }, kinds := [], alts := [], laidByText := true, laidKinds := [.data, .pinned], laidTests := true, laidLooks := .later }
def PolicyTellsCardSaid : Prop := Claim7.holds Tryd.pinned (.plain (OpenSpec.ofChange policyTellsSpec)) policyTellsCard

/-- THE SECOND FORM's CARD OF 'hoardinglaw30.PolicyTells'. -/
def policyTellsUptoCard : Claim7 := { stood := { row := policyTellsUptoRow, standIns := [], harness := (true, "1da0fbe637c595b4887d6895c2643ebf52bf895b4a5f564c3f97b3737f1ece27"), looks := false }, kinds := [], alts := [], laidByText := true, laidKinds := [.data, .pinned], laidTests := true, laidLooks := .later }
def PolicyTellsUptoCardSaid : Prop := Claim7.holds Tryd.pinned (.plain (OpenSpec.upto policyTellsSpec)) policyTellsUptoCard
end Rows
end Go.Proofs.YtnnjamopknlnbaaDoor
