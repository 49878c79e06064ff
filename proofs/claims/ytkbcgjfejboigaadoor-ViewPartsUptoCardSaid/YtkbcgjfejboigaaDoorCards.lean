/-
  DERIVED. GIVEN WITH THE SEED: THE CARDS: each row of YtkbcgjfejboigaaDoorRows.lean that lists a variable, with what it lists TIED to the program's text (the seventh form; the later family's looks); each row that meets fmt, with fmt's text TOLD by the authors' own Lean function (tested against real Go, not proved from fmt's source: count such statements apart). THE CARD IS WHAT COUNTS. Prove the row's statement (the work); the ties are given (YtkbcgjfejboigaaDoorTie.lean); close each card by the builder's one call (the guide's Derived/Test/ToyasCard.lean, 'card_holds'). Laid BY PROGRAM, IN A SANDBOX (cutbox-door.mjs). By AI agents, Wed Nov 11 2026. No macro, syntax, notation, axiom, sorry.
-/
import Derived.Test.YtkbcgjfejboigaaDoorRows
import GoSem.ClaimSeven
namespace Go.Proofs.YtkbcgjfejboigaaDoor
namespace Rows

/-- THE TIED CARD OF 'wardenlaw25.ViewParts'. -/
def viewPartsCard : Claim7 := { stood := { row := viewPartsRow, standIns := [], harness := (true, "7bc8630d2f2d15f16ae81ae99d689c4ba7af3ae338251d97ff20624487576fa3"), looks := false }, kinds := [], alts := [], laidByText := true, laidKinds := [.data, .data, .data, .data], laidTests := true, laidLooks := .later }
def ViewPartsCardSaid : Prop := Claim7.holds Tryd.pinned (.plain (OpenSpec.ofChange viewPartsSpec)) viewPartsCard

/-- THE SECOND FORM's CARD OF 'wardenlaw25.ViewParts'. -/
def viewPartsUptoCard : Claim7 := { stood := { row := viewPartsUptoRow, standIns := [], harness := (true, "7bc8630d2f2d15f16ae81ae99d689c4ba7af3ae338251d97ff20624487576fa3"), looks := false }, kinds := [], alts := [], laidByText := true, laidKinds := [.data, .data, .data, .data], laidTests := true, laidLooks := .later }
def ViewPartsUptoCardSaid : Prop := Claim7.holds Tryd.pinned (.plain (OpenSpec.upto viewPartsSpec)) viewPartsUptoCard
end Rows
end Go.Proofs.YtkbcgjfejboigaaDoor
