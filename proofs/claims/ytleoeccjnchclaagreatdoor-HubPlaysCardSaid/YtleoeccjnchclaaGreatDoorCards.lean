/-
  DERIVED. GIVEN WITH THE SEED: THE CARDS: each row of YtleoeccjnchclaaGreatDoorRows.lean that lists a variable, with what it lists TIED to the program's text (the seventh form; the later family's looks); each row that meets fmt, with fmt's text TOLD by the authors' own Lean function (tested against real Go, not proved from fmt's source: count such statements apart). THE CARD IS WHAT COUNTS. Prove the row's statement (the work); the ties are given (YtleoeccjnchclaaGreatDoorTie.lean); close each card by the builder's one call (the guide's Derived/Test/ToyasCard.lean, 'card_holds'). Laid BY PROGRAM, IN A SANDBOX (cutbox-door.mjs). By AI agents, Wed Nov 11 2026. No macro, syntax, notation, axiom, sorry.
-/
import Derived.Test.YtleoeccjnchclaaGreatDoorRows
import GoSem.ClaimSeven
namespace Go.Proofs.YtleoeccjnchclaaGreatDoor
namespace Rows

/-- THE TIED CARD OF 'pantrylaw25.HubPlays'. -/
def hubPlaysCard : Claim7 := { stood := { row := hubPlaysRow, standIns := [], harness := (true, "d78d52b5958337e4e942d0629256c443c0b48ef5e5648db5c8b97555a6950f6c"), looks := false }, kinds := [], alts := [], laidByText := true, laidKinds := [.data, .pinned], laidTests := true, laidLooks := .later }
def HubPlaysCardSaid : Prop := Claim7.holds Tryz.pinned (.plain (OpenSpec.ofChange hubPlaysSpec)) hubPlaysCard

/-- THE SECOND FORM's CARD OF 'pantrylaw25.HubPlays'. -/
def hubPlaysUptoCard : Claim7 := { stood := { row := hubPlaysUptoRow, standIns := [], harness := (true, "d78d52b5958337e4e942d0629256c443c0b48ef5e5648db5c8b97555a6950f6c"), looks := false }, kinds := [], alts := [], laidByText := true, laidKinds := [.data, .pinned], laidTests := true, laidLooks := .later }
def HubPlaysUptoCardSaid : Prop := Claim7.holds Tryz.pinned (.plain (OpenSpec.upto hubPlaysSpec)) hubPlaysUptoCard
end Rows
end Go.Proofs.YtleoeccjnchclaaGreatDoor
