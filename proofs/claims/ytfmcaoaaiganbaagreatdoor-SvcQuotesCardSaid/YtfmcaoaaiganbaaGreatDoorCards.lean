/-
  DERIVED. GIVEN WITH THE SEED: THE CARDS: each row of YtfmcaoaaiganbaaGreatDoorRows.lean that lists a variable, with what it lists TIED to the program's text (the seventh form; the later family's looks); each row that meets fmt, with fmt's text TOLD by the authors' own Lean function (tested against real Go, not proved from fmt's source: count such statements apart). THE CARD IS WHAT COUNTS. Prove the row's statement (the work); the ties are given (YtfmcaoaaiganbaaGreatDoorTie.lean); close each card by the builder's one call (the guide's Derived/Test/ToyasCard.lean, 'card_holds'). Laid BY PROGRAM, IN A SANDBOX (cutbox-door.mjs). By AI agents, Wed Nov 11 2026. No macro, syntax, notation, axiom, sorry.
-/
import Derived.Test.YtfmcaoaaiganbaaGreatDoorRows
import GoSem.ClaimSeven
namespace Go.Proofs.YtfmcaoaaiganbaaGreatDoor
namespace Rows

/-- THE TIED CARD OF 'wardenlaw19.SvcAll'. -/
def svcAllCard : Claim7 := { stood := { row := svcAllRow, standIns := [], harness := (true, "daf55e221614750ed20acf8c5f9a8ae269bd576bd5019d27c09c4637cbb710a7"), looks := false }, kinds := [], alts := [], laidByText := true, laidKinds := [.data, .data], laidTests := true, laidLooks := .later }
def SvcAllCardSaid : Prop := Claim7.holds Tryz.pinned (.plain (OpenSpec.ofChange svcAllSpec)) svcAllCard

/-- THE TIED CARD OF 'wardenlaw19.SvcQuotes'. -/
def svcQuotesCard : Claim7 := { stood := { row := svcQuotesRow, standIns := [], harness := (true, "daf55e221614750ed20acf8c5f9a8ae269bd576bd5019d27c09c4637cbb710a7"), looks := false }, kinds := [], alts := [], laidByText := true, laidKinds := [.data, .data], laidTests := true, laidLooks := .later }
def SvcQuotesCardSaid : Prop := Claim7.holds Tryz.pinned (.plain (OpenSpec.ofChange svcQuotesSpec)) svcQuotesCard

/-- THE TIED CARD OF 'wardenlaw19.SvcDraws'. -/
def svcDrawsCard : Claim7 := { stood := { row := svcDrawsRow, standIns := [], harness := (true, "daf55e221614750ed20acf8c5f9a8ae269bd576bd5019d27c09c4637cbb710a7"), looks := false }, kinds := [], alts := [], laidByText := true, laidKinds := [.data, .data], laidTests := true, laidLooks := .later }
def SvcDrawsCardSaid : Prop := Claim7.holds Tryz.pinned (.plain (OpenSpec.ofChange svcDrawsSpec)) svcDrawsCard

/-- THE TIED CARD OF 'wardenlaw19.SvcKeeps'. -/
def svcKeepsCard : Claim7 := { stood := { row := svcKeepsRow, standIns := [], harness := (true, "daf55e221614750ed20acf8c5f9a8ae269bd576bd5019d27c09c4637cbb710a7"), looks := false }, kinds := [], alts := [], laidByText := true, laidKinds := [.data, .data], laidTests := true, laidLooks := .later }
def SvcKeepsCardSaid : Prop := Claim7.holds Tryz.pinned (.plain (OpenSpec.ofChange svcKeepsSpec)) svcKeepsCard

/-- THE SECOND FORM's CARD OF 'wardenlaw19.SvcAll'. -/
def svcAllUptoCard : Claim7 := { stood := { row := svcAllUptoRow, standIns := [], harness := (true, "daf55e221614750ed20acf8c5f9a8ae269bd576bd5019d27c09c4637cbb710a7"), looks := false }, kinds := [], alts := [], laidByText := true, laidKinds := [.data, .data], laidTests := true, laidLooks := .later }
def SvcAllUptoCardSaid : Prop := Claim7.holds Tryz.pinned (.plain (OpenSpec.upto svcAllSpec)) svcAllUptoCard

/-- THE SECOND FORM's CARD OF 'wardenlaw19.SvcQuotes'. -/
def svcQuotesUptoCard : Claim7 := { stood := { row := svcQuotesUptoRow, standIns := [], harness := (true, "daf55e221614750ed20acf8c5f9a8ae269bd576bd5019d27c09c4637cbb710a7"), looks := false }, kinds := [], alts := [], laidByText := true, laidKinds := [.data, .data], laidTests := true, laidLooks := .later }
def SvcQuotesUptoCardSaid : Prop := Claim7.holds Tryz.pinned (.plain (OpenSpec.upto svcQuotesSpec)) svcQuotesUptoCard

/-- THE SECOND FORM's CARD OF 'wardenlaw19.SvcDraws'. -/
def svcDrawsUptoCard : Claim7 := { stood := { row := svcDrawsUptoRow, standIns := [], harness := (true, "daf55e221614750ed20acf8c5f9a8ae269bd576bd5019d27c09c4637cbb710a7"), looks := false }, kinds := [], alts := [], laidByText := true, laidKinds := [.data, .data], laidTests := true, laidLooks := .later }
def SvcDrawsUptoCardSaid : Prop := Claim7.holds Tryz.pinned (.plain (OpenSpec.upto svcDrawsSpec)) svcDrawsUptoCard

/-- THE SECOND FORM's CARD OF 'wardenlaw19.SvcKeeps'. -/
def svcKeepsUptoCard : Claim7 := { stood := { row := svcKeepsUptoRow, standIns := [], harness := (true, "daf55e221614750ed20acf8c5f9a8ae269bd576bd5019d27c09c4637cbb710a7"), looks := false }, kinds := [], alts := [], laidByText := true, laidKinds := [.data, .data], laidTests := true, laidLooks := .later }
def SvcKeepsUptoCardSaid : Prop := Claim7.holds Tryz.pinned (.plain (OpenSpec.upto svcKeepsSpec)) svcKeepsUptoCard
end Rows
end Go.Proofs.YtfmcaoaaiganbaaGreatDoor
