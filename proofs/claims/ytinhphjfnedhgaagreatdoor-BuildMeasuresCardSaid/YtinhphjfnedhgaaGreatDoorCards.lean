/-
  DERIVED. GIVEN WITH THE SEED: THE CARDS: each row of YtinhphjfnedhgaaGreatDoorRows.lean that lists a variable, with what it lists TIED to the program's text (the seventh form; the later family's looks); each row that meets fmt, with fmt's text TOLD by the authors' own Lean function (tested against real Go, not proved from fmt's source: count such statements apart). THE CARD IS WHAT COUNTS. Prove the row's statement (the work); the ties are given (YtinhphjfnedhgaaGreatDoorTie.lean); close each card by the builder's one call (the guide's Derived/Test/ToyasCard.lean, 'card_holds'). Laid BY PROGRAM, IN A SANDBOX (cutbox-door.mjs). By AI agents, Wed Nov 11 2026. No macro, syntax, notation, axiom, sorry.
-/
import Derived.Test.YtinhphjfnedhgaaGreatDoorRows
import GoSem.ClaimSeven
namespace Go.Proofs.YtinhphjfnedhgaaGreatDoor
namespace Rows

/-- THE TIED CARD OF 'wardenlaw17.BuildAll'. -/
def buildAllCard : Claim7 := { stood := { row := buildAllRow, standIns := [], harness := (true, "4005ff82abade87380ae656bae1277cdf77dd5fa8f92b5447bbfc42810012e7b"), looks := true }, kinds := [], alts := [], laidByText := true, laidKinds := [.data, .data], laidTests := true, laidLooks := .later }
def BuildAllCardSaid : Prop := Claim7.holds Tryz.pinned (.plain (OpenSpec.ofChange buildAllSpec)) buildAllCard

/-- THE TIED CARD OF 'wardenlaw17.BuildRefuses'. -/
def buildRefusesCard : Claim7 := { stood := { row := buildRefusesRow, standIns := [], harness := (true, "4005ff82abade87380ae656bae1277cdf77dd5fa8f92b5447bbfc42810012e7b"), looks := true }, kinds := [], alts := [], laidByText := true, laidKinds := [.data], laidTests := true, laidLooks := .later }
def BuildRefusesCardSaid : Prop := Claim7.holds Tryz.pinned (.plain (OpenSpec.ofChange buildRefusesSpec)) buildRefusesCard

/-- THE TIED CARD OF 'wardenlaw17.BuildMeasures'. -/
def buildMeasuresCard : Claim7 := { stood := { row := buildMeasuresRow, standIns := [], harness := (true, "4005ff82abade87380ae656bae1277cdf77dd5fa8f92b5447bbfc42810012e7b"), looks := true }, kinds := [], alts := [], laidByText := true, laidKinds := [.data], laidTests := true, laidLooks := .later }
def BuildMeasuresCardSaid : Prop := Claim7.holds Tryz.pinned (.plain (OpenSpec.ofChange buildMeasuresSpec)) buildMeasuresCard

/-- THE TIED CARD OF 'wardenlaw17.BuildValid'. -/
def buildValidCard : Claim7 := { stood := { row := buildValidRow, standIns := [], harness := (true, "4005ff82abade87380ae656bae1277cdf77dd5fa8f92b5447bbfc42810012e7b"), looks := true }, kinds := [], alts := [], laidByText := true, laidKinds := [.data], laidTests := true, laidLooks := .later }
def BuildValidCardSaid : Prop := Claim7.holds Tryz.pinned (.plain (OpenSpec.ofChange buildValidSpec)) buildValidCard

/-- THE SECOND FORM's CARD OF 'wardenlaw17.BuildAll'. -/
def buildAllUptoCard : Claim7 := { stood := { row := buildAllUptoRow, standIns := [], harness := (true, "4005ff82abade87380ae656bae1277cdf77dd5fa8f92b5447bbfc42810012e7b"), looks := true }, kinds := [], alts := [], laidByText := true, laidKinds := [.data, .data], laidTests := true, laidLooks := .later }
def BuildAllUptoCardSaid : Prop := Claim7.holds Tryz.pinned (.plain (OpenSpec.upto buildAllSpec)) buildAllUptoCard

/-- THE SECOND FORM's CARD OF 'wardenlaw17.BuildRefuses'. -/
def buildRefusesUptoCard : Claim7 := { stood := { row := buildRefusesUptoRow, standIns := [], harness := (true, "4005ff82abade87380ae656bae1277cdf77dd5fa8f92b5447bbfc42810012e7b"), looks := true }, kinds := [], alts := [], laidByText := true, laidKinds := [.data], laidTests := true, laidLooks := .later }
def BuildRefusesUptoCardSaid : Prop := Claim7.holds Tryz.pinned (.plain (OpenSpec.upto buildRefusesSpec)) buildRefusesUptoCard

/-- THE SECOND FORM's CARD OF 'wardenlaw17.BuildMeasures'. -/
def buildMeasuresUptoCard : Claim7 := { stood := { row := buildMeasuresUptoRow, standIns := [], harness := (true, "4005ff82abade87380ae656bae1277cdf77dd5fa8f92b5447bbfc42810012e7b"), looks := true }, kinds := [], alts := [], laidByText := true, laidKinds := [.data], laidTests := true, laidLooks := .later }
def BuildMeasuresUptoCardSaid : Prop := Claim7.holds Tryz.pinned (.plain (OpenSpec.upto buildMeasuresSpec)) buildMeasuresUptoCard

/-- THE SECOND FORM's CARD OF 'wardenlaw17.BuildValid'. -/
def buildValidUptoCard : Claim7 := { stood := { row := buildValidUptoRow, standIns := [], harness := (true, "4005ff82abade87380ae656bae1277cdf77dd5fa8f92b5447bbfc42810012e7b"), looks := true }, kinds := [], alts := [], laidByText := true, laidKinds := [.data], laidTests := true, laidLooks := .later }
def BuildValidUptoCardSaid : Prop := Claim7.holds Tryz.pinned (.plain (OpenSpec.upto buildValidSpec)) buildValidUptoCard
end Rows
end Go.Proofs.YtinhphjfnedhgaaGreatDoor
