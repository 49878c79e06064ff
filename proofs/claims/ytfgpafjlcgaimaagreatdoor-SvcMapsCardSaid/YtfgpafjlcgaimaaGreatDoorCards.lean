/-
  DERIVED. GIVEN WITH THE SEED: THE CARDS: each row of YtfgpafjlcgaimaaGreatDoorRows.lean that lists a variable, with what it lists TIED to the program's text (the seventh form; the later family's looks); each row that meets fmt, with fmt's text TOLD by the authors' own Lean function (tested against real Go, not proved from fmt's source: count such statements apart). THE CARD IS WHAT COUNTS. Prove the row's statement (the work); the ties are given (YtfgpafjlcgaimaaGreatDoorTie.lean); close each card by the builder's one call (the guide's Derived/Test/ToyasCard.lean, 'card_holds'). Laid BY PROGRAM, IN A SANDBOX (cutbox-door.mjs). By AI agents, Wed Nov 11 2026. No macro, syntax, notation, axiom, sorry.
-/
import Derived.Test.YtfgpafjlcgaimaaGreatDoorRows
import GoSem.ClaimSeven
namespace Go.Proofs.YtfgpafjlcgaimaaGreatDoor
namespace Rows

/-- THE TIED CARD OF 'wardenlaw19.SvcMaps'. -/
def svcMapsCard : Claim7 := { stood := { row := svcMapsRow, standIns := [], harness := (true, "99c070901cd616224a5ab97caeaf7170be55277dee32b373e41d3d3f39bdf293"), looks := false }, kinds := [], alts := [], laidByText := true, laidKinds := [.data, .data], laidTests := true, laidLooks := .later }
def SvcMapsCardSaid : Prop := Claim7.holds Tryz.pinned (.plain (OpenSpec.ofChange svcMapsSpec)) svcMapsCard

/-- THE SECOND FORM's CARD OF 'wardenlaw19.SvcMaps'. -/
def svcMapsUptoCard : Claim7 := { stood := { row := svcMapsUptoRow, standIns := [], harness := (true, "99c070901cd616224a5ab97caeaf7170be55277dee32b373e41d3d3f39bdf293"), looks := false }, kinds := [], alts := [], laidByText := true, laidKinds := [.data, .data], laidTests := true, laidLooks := .later }
def SvcMapsUptoCardSaid : Prop := Claim7.holds Tryz.pinned (.plain (OpenSpec.upto svcMapsSpec)) svcMapsUptoCard
end Rows
end Go.Proofs.YtfgpafjlcgaimaaGreatDoor
