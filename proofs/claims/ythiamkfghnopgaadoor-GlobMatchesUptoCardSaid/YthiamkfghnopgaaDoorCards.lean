/-
  DERIVED. GIVEN WITH THE SEED: THE CARDS: each row of YthiamkfghnopgaaDoorRows.lean that lists a variable, with what it lists TIED to the program's text (the seventh form; the later family's looks); each row that meets fmt, with fmt's text TOLD by the authors' own Lean function (tested against real Go, not proved from fmt's source: count such statements apart). THE CARD IS WHAT COUNTS. Prove the row's statement (the work); the ties are given (YthiamkfghnopgaaDoorTie.lean); close each card by the builder's one call (the guide's Derived/Test/ToyasCard.lean, 'card_holds'). Laid BY PROGRAM, IN A SANDBOX (cutbox-door.mjs). By AI agents, Wed Nov 11 2026. No macro, syntax, notation, axiom, sorry.
-/
import Derived.Test.YthiamkfghnopgaaDoorRows
import GoSem.ClaimSeven
namespace Go.Proofs.YthiamkfghnopgaaDoor
namespace Rows

/-- THE TIED CARD OF 'pantrylaw03.GlobMatches'. -/
def globMatchesCard : Claim7 := { stood := { row := globMatchesRow, standIns := [], harness := (true, "1bd902719a61c8836ddee3d77c7f20a524b075feb43318ba33bd080bdad54f1a"), looks := false }, kinds := [], alts := [], laidByText := true, laidKinds := [.data, .pinned], laidTests := true, laidLooks := .later }
def GlobMatchesCardSaid : Prop := Claim7.holds Tryd.pinned (.plain (OpenSpec.ofChange globMatchesSpec)) globMatchesCard

/-- THE TIED CARD OF 'pantrylaw03.GlobSplits'. -/
def globSplitsCard : Claim7 := { stood := { row := globSplitsRow, standIns := [], harness := (true, "1bd902719a61c8836ddee3d77c7f20a524b075feb43318ba33bd080bdad54f1a"), looks := false }, kinds := [], alts := [], laidByText := true, laidKinds := [.data, .pinned], laidTests := true, laidLooks := .later }
def GlobSplitsCardSaid : Prop := Claim7.holds Tryd.pinned (.plain (OpenSpec.ofChange globSplitsSpec)) globSplitsCard

/-- THE TIED CARD OF 'pantrylaw03.GlobOne'. -/
def globOneCard : Claim7 := { stood := { row := globOneRow, standIns := [], harness := (true, "1bd902719a61c8836ddee3d77c7f20a524b075feb43318ba33bd080bdad54f1a"), looks := false }, kinds := [], alts := [], laidByText := true, laidKinds := [.data, .pinned], laidTests := true, laidLooks := .later }
def GlobOneCardSaid : Prop := Claim7.holds Tryd.pinned (.plain (OpenSpec.ofChange globOneSpec)) globOneCard

/-- THE TIED CARD OF 'pantrylaw03.GlobItself'. -/
def globItselfCard : Claim7 := { stood := { row := globItselfRow, standIns := [], harness := (true, "1bd902719a61c8836ddee3d77c7f20a524b075feb43318ba33bd080bdad54f1a"), looks := false }, kinds := [], alts := [], laidByText := true, laidKinds := [.data, .pinned], laidTests := true, laidLooks := .later }
def GlobItselfCardSaid : Prop := Claim7.holds Tryd.pinned (.plain (OpenSpec.ofChange globItselfSpec)) globItselfCard

/-- THE TIED CARD OF 'pantrylaw03.GlobStars'. -/
def globStarsCard : Claim7 := { stood := { row := globStarsRow, standIns := [], harness := (true, "1bd902719a61c8836ddee3d77c7f20a524b075feb43318ba33bd080bdad54f1a"), looks := false }, kinds := [], alts := [], laidByText := true, laidKinds := [.data, .pinned], laidTests := true, laidLooks := .later }
def GlobStarsCardSaid : Prop := Claim7.holds Tryd.pinned (.plain (OpenSpec.ofChange globStarsSpec)) globStarsCard

/-- THE SECOND FORM's CARD OF 'pantrylaw03.GlobMatches'. -/
def globMatchesUptoCard : Claim7 := { stood := { row := globMatchesUptoRow, standIns := [], harness := (true, "1bd902719a61c8836ddee3d77c7f20a524b075feb43318ba33bd080bdad54f1a"), looks := false }, kinds := [], alts := [], laidByText := true, laidKinds := [.data, .pinned], laidTests := true, laidLooks := .later }
def GlobMatchesUptoCardSaid : Prop := Claim7.holds Tryd.pinned (.plain (OpenSpec.upto globMatchesSpec)) globMatchesUptoCard

/-- THE SECOND FORM's CARD OF 'pantrylaw03.GlobSplits'. -/
def globSplitsUptoCard : Claim7 := { stood := { row := globSplitsUptoRow, standIns := [], harness := (true, "1bd902719a61c8836ddee3d77c7f20a524b075feb43318ba33bd080bdad54f1a"), looks := false }, kinds := [], alts := [], laidByText := true, laidKinds := [.data, .pinned], laidTests := true, laidLooks := .later }
def GlobSplitsUptoCardSaid : Prop := Claim7.holds Tryd.pinned (.plain (OpenSpec.upto globSplitsSpec)) globSplitsUptoCard

/-- THE SECOND FORM's CARD OF 'pantrylaw03.GlobOne'. -/
def globOneUptoCard : Claim7 := { stood := { row := globOneUptoRow, standIns := [], harness := (true, "1bd902719a61c8836ddee3d77c7f20a524b075feb43318ba33bd080bdad54f1a"), looks := false }, kinds := [], alts := [], laidByText := true, laidKinds := [.data, .pinned], laidTests := true, laidLooks := .later }
def GlobOneUptoCardSaid : Prop := Claim7.holds Tryd.pinned (.plain (OpenSpec.upto globOneSpec)) globOneUptoCard

/-- THE SECOND FORM's CARD OF 'pantrylaw03.GlobItself'. -/
def globItselfUptoCard : Claim7 := { stood := { row := globItselfUptoRow, standIns := [], harness := (true, "1bd902719a61c8836ddee3d77c7f20a524b075feb43318ba33bd080bdad54f1a"), looks := false }, kinds := [], alts := [], laidByText := true, laidKinds := [.data, .pinned], laidTests := true, laidLooks := .later }
def GlobItselfUptoCardSaid : Prop := Claim7.holds Tryd.pinned (.plain (OpenSpec.upto globItselfSpec)) globItselfUptoCard

/-- THE SECOND FORM's CARD OF 'pantrylaw03.GlobStars'. -/
def globStarsUptoCard : Claim7 := { stood := { row := globStarsUptoRow, standIns := [], harness := (true, "1bd902719a61c8836ddee3d77c7f20a524b075feb43318ba33bd080bdad54f1a"), looks := false }, kinds := [], alts := [], laidByText := true, laidKinds := [.data, .pinned], laidTests := true, laidLooks := .later }
def GlobStarsUptoCardSaid : Prop := Claim7.holds Tryd.pinned (.plain (OpenSpec.upto globStarsSpec)) globStarsUptoCard
end Rows
end Go.Proofs.YthiamkfghnopgaaDoor
