/-
  DERIVED. GIVEN WITH THE SEED: THE CARDS: each row of YtjiflmkpbkeocaaGreatDoorRows.lean that lists a variable, with what it lists TIED to the program's text (the seventh form; the later family's looks); each row that meets fmt, with fmt's text TOLD by the authors' own Lean function (tested against real Go, not proved from fmt's source: count such statements apart). THE CARD IS WHAT COUNTS. Prove the row's statement (the work); the ties are given (YtjiflmkpbkeocaaGreatDoorTie.lean); close each card by the builder's one call (the guide's Derived/Test/ToyasCard.lean, 'card_holds'). Laid BY PROGRAM, IN A SANDBOX (cutbox-door.mjs). By AI agents, Wed Nov 11 2026. No macro, syntax, notation, axiom, sorry.
-/
import Derived.Test.YtjiflmkpbkeocaaGreatDoorRows
import GoSem.ClaimSeven
namespace Go.Proofs.YtjiflmkpbkeocaaGreatDoor
namespace Rows

/-- THE TIED CARD OF 'wardenlaw20.EnterLocal'. -/
def enterLocalCard : Claim7 := { stood := { row := enterLocalRow, standIns := [], harness := (true, "1fcef75226392707d4487a10ff8aa6979656bafe329d6f90a9dc8780c9423c28"), looks := true }, kinds := [], alts := [], laidByText := true, laidKinds := [.data, .data, .data], laidTests := true, laidLooks := .later }
def EnterLocalCardSaid : Prop := Claim7.holds Tryz.pinned (.plain (OpenSpec.ofChange enterLocalSpec)) enterLocalCard

/-- THE TIED CARD OF 'wardenlaw20.EnterGoesOn'. -/
def enterGoesOnCard : Claim7 := { stood := { row := enterGoesOnRow, standIns := [], harness := (true, "1fcef75226392707d4487a10ff8aa6979656bafe329d6f90a9dc8780c9423c28"), looks := true }, kinds := [], alts := [], laidByText := true, laidKinds := [.data, .data, .data], laidTests := true, laidLooks := .later }
def EnterGoesOnCardSaid : Prop := Claim7.holds Tryz.pinned (.plain (OpenSpec.ofChange enterGoesOnSpec)) enterGoesOnCard

/-- THE TIED CARD OF 'wardenlaw20.EnterRefuses'. -/
def enterRefusesCard : Claim7 := { stood := { row := enterRefusesRow, standIns := [], harness := (true, "1fcef75226392707d4487a10ff8aa6979656bafe329d6f90a9dc8780c9423c28"), looks := true }, kinds := [], alts := [], laidByText := true, laidKinds := [.data, .data, .data], laidTests := true, laidLooks := .later }
def EnterRefusesCardSaid : Prop := Claim7.holds Tryz.pinned (.plain (OpenSpec.ofChange enterRefusesSpec)) enterRefusesCard

/-- THE TIED CARD OF 'wardenlaw20.EnterHides'. -/
def enterHidesCard : Claim7 := { stood := { row := enterHidesRow, standIns := [], harness := (true, "1fcef75226392707d4487a10ff8aa6979656bafe329d6f90a9dc8780c9423c28"), looks := true }, kinds := [], alts := [], laidByText := true, laidKinds := [.data, .data, .data], laidTests := true, laidLooks := .later }
def EnterHidesCardSaid : Prop := Claim7.holds Tryz.pinned (.plain (OpenSpec.ofChange enterHidesSpec)) enterHidesCard

/-- THE SECOND FORM's CARD OF 'wardenlaw20.EnterLocal'. -/
def enterLocalUptoCard : Claim7 := { stood := { row := enterLocalUptoRow, standIns := [], harness := (true, "1fcef75226392707d4487a10ff8aa6979656bafe329d6f90a9dc8780c9423c28"), looks := true }, kinds := [], alts := [], laidByText := true, laidKinds := [.data, .data, .data], laidTests := true, laidLooks := .later }
def EnterLocalUptoCardSaid : Prop := Claim7.holds Tryz.pinned (.plain (OpenSpec.upto enterLocalSpec)) enterLocalUptoCard

/-- THE SECOND FORM's CARD OF 'wardenlaw20.EnterGoesOn'. -/
def enterGoesOnUptoCard : Claim7 := { stood := { row := enterGoesOnUptoRow, standIns := [], harness := (true, "1fcef75226392707d4487a10ff8aa6979656bafe329d6f90a9dc8780c9423c28"), looks := true }, kinds := [], alts := [], laidByText := true, laidKinds := [.data, .data, .data], laidTests := true, laidLooks := .later }
def EnterGoesOnUptoCardSaid : Prop := Claim7.holds Tryz.pinned (.plain (OpenSpec.upto enterGoesOnSpec)) enterGoesOnUptoCard

/-- THE SECOND FORM's CARD OF 'wardenlaw20.EnterRefuses'. -/
def enterRefusesUptoCard : Claim7 := { stood := { row := enterRefusesUptoRow, standIns := [], harness := (true, "1fcef75226392707d4487a10ff8aa6979656bafe329d6f90a9dc8780c9423c28"), looks := true }, kinds := [], alts := [], laidByText := true, laidKinds := [.data, .data, .data], laidTests := true, laidLooks := .later }
def EnterRefusesUptoCardSaid : Prop := Claim7.holds Tryz.pinned (.plain (OpenSpec.upto enterRefusesSpec)) enterRefusesUptoCard

/-- THE SECOND FORM's CARD OF 'wardenlaw20.EnterHides'. -/
def enterHidesUptoCard : Claim7 := { stood := { row := enterHidesUptoRow, standIns := [], harness := (true, "1fcef75226392707d4487a10ff8aa6979656bafe329d6f90a9dc8780c9423c28"), looks := true }, kinds := [], alts := [], laidByText := true, laidKinds := [.data, .data, .data], laidTests := true, laidLooks := .later }
def EnterHidesUptoCardSaid : Prop := Claim7.holds Tryz.pinned (.plain (OpenSpec.upto enterHidesSpec)) enterHidesUptoCard
end Rows
end Go.Proofs.YtjiflmkpbkeocaaGreatDoor
