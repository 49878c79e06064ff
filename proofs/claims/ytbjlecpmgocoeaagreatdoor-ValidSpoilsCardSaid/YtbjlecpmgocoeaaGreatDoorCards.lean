/-
  DERIVED. GIVEN WITH THE SEED: THE CARDS: each row of YtbjlecpmgocoeaaGreatDoorRows.lean that lists a variable, with what it lists TIED to the program's text (the seventh form; the later family's looks); each row that meets fmt, with fmt's text TOLD by the authors' own Lean function (tested against real Go, not proved from fmt's source: count such statements apart). THE CARD IS WHAT COUNTS. Prove the row's statement (the work); the ties are given (YtbjlecpmgocoeaaGreatDoorTie.lean); close each card by the builder's one call (the guide's Derived/Test/ToyasCard.lean, 'card_holds'). Laid BY PROGRAM, IN A SANDBOX (cutbox-door.mjs). By AI agents, Wed Nov 11 2026. No macro, syntax, notation, axiom, sorry.
-/
import Derived.Test.YtbjlecpmgocoeaaGreatDoorRows
import GoSem.ClaimSeven
namespace Go.Proofs.YtbjlecpmgocoeaaGreatDoor
namespace Rows

/-- THE TIED CARD OF 'wardenlaw13.ValidSpoils'. -/
def validSpoilsCard : Claim7 := { stood := { row := validSpoilsRow, standIns := [], harness := (true, "f058b0afc36d443aecdccf341377bd94eca7772ab4271b0ca8f2561e00fa4153"), looks := false }, kinds := [], alts := [], laidByText := true, laidKinds := [.data, .data], laidTests := true, laidLooks := .later }
def ValidSpoilsCardSaid : Prop := Claim7.holds Tryz.pinned (.plain (OpenSpec.ofChange validSpoilsSpec)) validSpoilsCard

/-- THE TIED CARD OF 'wardenlaw13.ValidAll'. -/
def validAllCard : Claim7 := { stood := { row := validAllRow, standIns := [], harness := (true, "f058b0afc36d443aecdccf341377bd94eca7772ab4271b0ca8f2561e00fa4153"), looks := false }, kinds := [], alts := [], laidByText := true, laidKinds := [.data, .data, .data], laidTests := true, laidLooks := .later }
def ValidAllCardSaid : Prop := Claim7.holds Tryz.pinned (.plain (OpenSpec.ofChange validAllSpec)) validAllCard

/-- THE TIED CARD OF 'wardenlaw13.ValidFirst'. -/
def validFirstCard : Claim7 := { stood := { row := validFirstRow, standIns := [], harness := (true, "f058b0afc36d443aecdccf341377bd94eca7772ab4271b0ca8f2561e00fa4153"), looks := false }, kinds := [], alts := [], laidByText := true, laidKinds := [.data, .data], laidTests := true, laidLooks := .later }
def ValidFirstCardSaid : Prop := Claim7.holds Tryz.pinned (.plain (OpenSpec.ofChange validFirstSpec)) validFirstCard

/-- THE SECOND FORM's CARD OF 'wardenlaw13.ValidSpoils'. -/
def validSpoilsUptoCard : Claim7 := { stood := { row := validSpoilsUptoRow, standIns := [], harness := (true, "f058b0afc36d443aecdccf341377bd94eca7772ab4271b0ca8f2561e00fa4153"), looks := false }, kinds := [], alts := [], laidByText := true, laidKinds := [.data, .data], laidTests := true, laidLooks := .later }
def ValidSpoilsUptoCardSaid : Prop := Claim7.holds Tryz.pinned (.plain (OpenSpec.upto validSpoilsSpec)) validSpoilsUptoCard

/-- THE SECOND FORM's CARD OF 'wardenlaw13.ValidAll'. -/
def validAllUptoCard : Claim7 := { stood := { row := validAllUptoRow, standIns := [], harness := (true, "f058b0afc36d443aecdccf341377bd94eca7772ab4271b0ca8f2561e00fa4153"), looks := false }, kinds := [], alts := [], laidByText := true, laidKinds := [.data, .data, .data], laidTests := true, laidLooks := .later }
def ValidAllUptoCardSaid : Prop := Claim7.holds Tryz.pinned (.plain (OpenSpec.upto validAllSpec)) validAllUptoCard

/-- THE SECOND FORM's CARD OF 'wardenlaw13.ValidFirst'. -/
def validFirstUptoCard : Claim7 := { stood := { row := validFirstUptoRow, standIns := [], harness := (true, "f058b0afc36d443aecdccf341377bd94eca7772ab4271b0ca8f2561e00fa4153"), looks := false }, kinds := [], alts := [], laidByText := true, laidKinds := [.data, .data], laidTests := true, laidLooks := .later }
def ValidFirstUptoCardSaid : Prop := Claim7.holds Tryz.pinned (.plain (OpenSpec.upto validFirstSpec)) validFirstUptoCard
end Rows
end Go.Proofs.YtbjlecpmgocoeaaGreatDoor
