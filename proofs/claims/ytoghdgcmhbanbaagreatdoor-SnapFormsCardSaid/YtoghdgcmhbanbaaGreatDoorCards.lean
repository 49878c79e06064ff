/-
  DERIVED. GIVEN WITH THE SEED: THE CARDS: each row of YtoghdgcmhbanbaaGreatDoorRows.lean that lists a variable, with what it lists TIED to the program's text (the seventh form; the later family's looks); each row that meets fmt, with fmt's text TOLD by the authors' own Lean function (tested against real Go, not proved from fmt's source: count such statements apart). THE CARD IS WHAT COUNTS. Prove the row's statement (the work); the ties are given (YtoghdgcmhbanbaaGreatDoorTie.lean); close each card by the builder's one call (the guide's Derived/Test/ToyasCard.lean, 'card_holds'). Laid BY PROGRAM, IN A SANDBOX (cutbox-door.mjs). By AI agents, Wed Nov 11 2026. No macro, syntax, notation, axiom, sorry.
-/
import Derived.Test.YtoghdgcmhbanbaaGreatDoorRows
import GoSem.ClaimSeven
namespace Go.Proofs.YtoghdgcmhbanbaaGreatDoor
namespace Rows

/-- THE TIED CARD OF 'wardenlaw27.SnapForms'. -/
def snapFormsCard : Claim7 := { stood := { row := snapFormsRow, standIns := [], harness := (true, "ae0a2218051ae4a08548429cd30b24c381c1c5fdc11d925857f797d4e373f5df"), looks := false }, kinds := [], alts := [], laidByText := true, laidKinds := [.data, .data, .data], laidTests := true, laidLooks := .later }
def SnapFormsCardSaid : Prop := Claim7.holds Tryz.pinned (.plain (OpenSpec.ofChange snapFormsSpec)) snapFormsCard

/-- THE SECOND FORM's CARD OF 'wardenlaw27.SnapForms'. -/
def snapFormsUptoCard : Claim7 := { stood := { row := snapFormsUptoRow, standIns := [], harness := (true, "ae0a2218051ae4a08548429cd30b24c381c1c5fdc11d925857f797d4e373f5df"), looks := false }, kinds := [], alts := [], laidByText := true, laidKinds := [.data, .data, .data], laidTests := true, laidLooks := .later }
def SnapFormsUptoCardSaid : Prop := Claim7.holds Tryz.pinned (.plain (OpenSpec.upto snapFormsSpec)) snapFormsUptoCard
end Rows
end Go.Proofs.YtoghdgcmhbanbaaGreatDoor
