/-
  DERIVED. GIVEN WITH THE SEED: THE CARDS: each row of YtbcmefndjggkpaaGreatDoorRows.lean that lists a variable, with what it lists TIED to the program's text (the seventh form; the later family's looks); each row that meets fmt, with fmt's text TOLD by the authors' own Lean function (tested against real Go, not proved from fmt's source: count such statements apart). THE CARD IS WHAT COUNTS. Prove the row's statement (the work); the ties are given (YtbcmefndjggkpaaGreatDoorTie.lean); close each card by the builder's one call (the guide's Derived/Test/ToyasCard.lean, 'card_holds'). Laid BY PROGRAM, IN A SANDBOX (cutbox-door.mjs). By AI agents, Wed Nov 11 2026. No macro, syntax, notation, axiom, sorry.
-/
import Derived.Test.YtbcmefndjggkpaaGreatDoorRows
import GoSem.ClaimSeven
namespace Go.Proofs.YtbcmefndjggkpaaGreatDoor
namespace Rows

/-- THE TIED CARD OF 'wardenlaw19.SvcAll'. -/
def svcAllCard : Claim7 := { stood := { row := svcAllRow, standIns := [], harness := (true, "d65772cdb0c83fe8a6b074cb764419d0c6b73c1912b6a5c33e8c99fa68ae259a"), looks := false }, kinds := [], alts := [], laidByText := true, laidKinds := [.data, .data], laidTests := true, laidLooks := .later }
def SvcAllCardSaid : Prop := Claim7.holds Tryz.pinned (.plain (OpenSpec.ofChange svcAllSpec)) svcAllCard

/-- THE SECOND FORM's CARD OF 'wardenlaw19.SvcAll'. -/
def svcAllUptoCard : Claim7 := { stood := { row := svcAllUptoRow, standIns := [], harness := (true, "d65772cdb0c83fe8a6b074cb764419d0c6b73c1912b6a5c33e8c99fa68ae259a"), looks := false }, kinds := [], alts := [], laidByText := true, laidKinds := [.data, .data], laidTests := true, laidLooks := .later }
def SvcAllUptoCardSaid : Prop := Claim7.holds Tryz.pinned (.plain (OpenSpec.upto svcAllSpec)) svcAllUptoCard
end Rows
end Go.Proofs.YtbcmefndjggkpaaGreatDoor
