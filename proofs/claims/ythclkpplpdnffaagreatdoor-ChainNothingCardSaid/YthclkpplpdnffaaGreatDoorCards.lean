/-
  DERIVED. GIVEN WITH THE SEED: THE CARDS: each row of YthclkpplpdnffaaGreatDoorRows.lean that lists a variable, with what it lists TIED to the program's text (the seventh form; the later family's looks); each row that meets fmt, with fmt's text TOLD by the authors' own Lean function (tested against real Go, not proved from fmt's source: count such statements apart). THE CARD IS WHAT COUNTS. Prove the row's statement (the work); the ties are given (YthclkpplpdnffaaGreatDoorTie.lean); close each card by the builder's one call (the guide's Derived/Test/ToyasCard.lean, 'card_holds'). Laid BY PROGRAM, IN A SANDBOX (cutbox-door.mjs). By AI agents, Wed Nov 11 2026. No macro, syntax, notation, axiom, sorry.
-/
import Derived.Test.YthclkpplpdnffaaGreatDoorRows
import GoSem.ClaimSeven
namespace Go.Proofs.YthclkpplpdnffaaGreatDoor
namespace Rows

/-- THE TIED CARD OF 'hoardinglaw43.FormsOwn'. -/
def formsOwnCard : Claim7 := { stood := { row := formsOwnRow, standIns := [], harness := (true, "1fc9ffa80b17c25d1b99994fa8deb85dc21e69e5e038f73d2dee319eca45bcee"), looks := true }, kinds := [], alts := [], laidByText := true, laidKinds := [.data, .data, .data, .sentinel, .sentinel], laidTests := true, laidLooks := .later }
def FormsOwnCardSaid : Prop := Claim7.holds Tryz.pinned (.plain (OpenSpec.ofChange formsOwnSpec)) formsOwnCard

/-- THE TIED CARD OF 'hoardinglaw44.ChainGoes'. -/
def chainGoesCard : Claim7 := { stood := { row := chainGoesRow, standIns := [], harness := (true, "1fc9ffa80b17c25d1b99994fa8deb85dc21e69e5e038f73d2dee319eca45bcee"), looks := true }, kinds := [], alts := [], laidByText := true, laidKinds := [.data, .data, .data, .sentinel, .sentinel], laidTests := true, laidLooks := .later }
def ChainGoesCardSaid : Prop := Claim7.holds Tryz.pinned (.plain (OpenSpec.ofChange chainGoesSpec)) chainGoesCard

/-- THE TIED CARD OF 'hoardinglaw44.ChainNothing'. -/
def chainNothingCard : Claim7 := { stood := { row := chainNothingRow, standIns := [], harness := (true, "1fc9ffa80b17c25d1b99994fa8deb85dc21e69e5e038f73d2dee319eca45bcee"), looks := true }, kinds := [], alts := [], laidByText := true, laidKinds := [.data, .data, .data, .sentinel, .sentinel], laidTests := true, laidLooks := .later }
def ChainNothingCardSaid : Prop := Claim7.holds Tryz.pinned (.plain (OpenSpec.ofChange chainNothingSpec)) chainNothingCard

/-- THE SECOND FORM's CARD OF 'hoardinglaw43.FormsOwn'. -/
def formsOwnUptoCard : Claim7 := { stood := { row := formsOwnUptoRow, standIns := [], harness := (true, "1fc9ffa80b17c25d1b99994fa8deb85dc21e69e5e038f73d2dee319eca45bcee"), looks := true }, kinds := [], alts := [], laidByText := true, laidKinds := [.data, .data, .data, .sentinel, .sentinel], laidTests := true, laidLooks := .later }
def FormsOwnUptoCardSaid : Prop := Claim7.holds Tryz.pinned (.plain (OpenSpec.upto formsOwnSpec)) formsOwnUptoCard

/-- THE SECOND FORM's CARD OF 'hoardinglaw44.ChainGoes'. -/
def chainGoesUptoCard : Claim7 := { stood := { row := chainGoesUptoRow, standIns := [], harness := (true, "1fc9ffa80b17c25d1b99994fa8deb85dc21e69e5e038f73d2dee319eca45bcee"), looks := true }, kinds := [], alts := [], laidByText := true, laidKinds := [.data, .data, .data, .sentinel, .sentinel], laidTests := true, laidLooks := .later }
def ChainGoesUptoCardSaid : Prop := Claim7.holds Tryz.pinned (.plain (OpenSpec.upto chainGoesSpec)) chainGoesUptoCard

/-- THE SECOND FORM's CARD OF 'hoardinglaw44.ChainNothing'. -/
def chainNothingUptoCard : Claim7 := { stood := { row := chainNothingUptoRow, standIns := [], harness := (true, "1fc9ffa80b17c25d1b99994fa8deb85dc21e69e5e038f73d2dee319eca45bcee"), looks := true }, kinds := [], alts := [], laidByText := true, laidKinds := [.data, .data, .data, .sentinel, .sentinel], laidTests := true, laidLooks := .later }
def ChainNothingUptoCardSaid : Prop := Claim7.holds Tryz.pinned (.plain (OpenSpec.upto chainNothingSpec)) chainNothingUptoCard
end Rows
end Go.Proofs.YthclkpplpdnffaaGreatDoor
