/-
  DERIVED. GIVEN WITH THE SEED: THE CARDS: each row of YtleoeccjnchclaaDoorRows.lean that lists a variable, with what it lists TIED to the program's text (the seventh form; the later family's looks); each row that meets fmt, with fmt's text TOLD by the authors' own Lean function (tested against real Go, not proved from fmt's source: count such statements apart). THE CARD IS WHAT COUNTS. Prove the row's statement (the work); the ties are given (YtleoeccjnchclaaDoorTie.lean); close each card by the builder's one call (the guide's Derived/Test/ToyasCard.lean, 'card_holds'). Laid BY PROGRAM, IN A SANDBOX (cutbox-door.mjs). By AI agents, Wed Nov 11 2026. No macro, syntax, notation, axiom, sorry.
-/
import Derived.Test.YtleoeccjnchclaaDoorRows
import GoSem.ClaimSeven
namespace Go.Proofs.YtleoeccjnchclaaDoor
namespace Rows

/-- THE TIED CARD OF 'pantrylaw25.HubApart'. -/
def hubApartCard : Claim7 := { stood := { row := hubApartRow, standIns := [], harness := (true, "0111fb1327d2a5050f9c9129165f1d537de604c2862a20990f205382bfb88afb"), looks := false }, kinds := [], alts := [], laidByText := true, laidKinds := [.data, .pinned], laidTests := true, laidLooks := .later }
def HubApartCardSaid : Prop := Claim7.holds Tryd.pinned (.plain (OpenSpec.ofChange hubApartSpec)) hubApartCard

/-- THE TIED CARD OF 'pantrylaw25.HubTells'. -/
def hubTellsCard : Claim7 := { stood := { row := hubTellsRow, standIns := [], harness := (true, "0111fb1327d2a5050f9c9129165f1d537de604c2862a20990f205382bfb88afb"), looks := false }, kinds := [], alts := [], laidByText := true, laidKinds := [.data, .pinned], laidTests := true, laidLooks := .later }
def HubTellsCardSaid : Prop := Claim7.holds Tryd.pinned (.plain (OpenSpec.ofChange hubTellsSpec)) hubTellsCard

/-- THE TIED CARD OF 'pantrylaw25.HubKnown'. -/
def hubKnownCard : Claim7 := { stood := { row := hubKnownRow, standIns := [], harness := (true, "0111fb1327d2a5050f9c9129165f1d537de604c2862a20990f205382bfb88afb"), looks := false }, kinds := [], alts := [], laidByText := true, laidKinds := [.data, .pinned], laidTests := true, laidLooks := .later }
def HubKnownCardSaid : Prop := Claim7.holds Tryd.pinned (.plain (OpenSpec.ofChange hubKnownSpec)) hubKnownCard

/-- THE SECOND FORM's CARD OF 'pantrylaw25.HubApart'. -/
def hubApartUptoCard : Claim7 := { stood := { row := hubApartUptoRow, standIns := [], harness := (true, "0111fb1327d2a5050f9c9129165f1d537de604c2862a20990f205382bfb88afb"), looks := false }, kinds := [], alts := [], laidByText := true, laidKinds := [.data, .pinned], laidTests := true, laidLooks := .later }
def HubApartUptoCardSaid : Prop := Claim7.holds Tryd.pinned (.plain (OpenSpec.upto hubApartSpec)) hubApartUptoCard

/-- THE SECOND FORM's CARD OF 'pantrylaw25.HubTells'. -/
def hubTellsUptoCard : Claim7 := { stood := { row := hubTellsUptoRow, standIns := [], harness := (true, "0111fb1327d2a5050f9c9129165f1d537de604c2862a20990f205382bfb88afb"), looks := false }, kinds := [], alts := [], laidByText := true, laidKinds := [.data, .pinned], laidTests := true, laidLooks := .later }
def HubTellsUptoCardSaid : Prop := Claim7.holds Tryd.pinned (.plain (OpenSpec.upto hubTellsSpec)) hubTellsUptoCard

/-- THE SECOND FORM's CARD OF 'pantrylaw25.HubKnown'. -/
def hubKnownUptoCard : Claim7 := { stood := { row := hubKnownUptoRow, standIns := [], harness := (true, "0111fb1327d2a5050f9c9129165f1d537de604c2862a20990f205382bfb88afb"), looks := false }, kinds := [], alts := [], laidByText := true, laidKinds := [.data, .pinned], laidTests := true, laidLooks := .later }
def HubKnownUptoCardSaid : Prop := Claim7.holds Tryd.pinned (.plain (OpenSpec.upto hubKnownSpec)) hubKnownUptoCard
end Rows
end Go.Proofs.YtleoeccjnchclaaDoor
