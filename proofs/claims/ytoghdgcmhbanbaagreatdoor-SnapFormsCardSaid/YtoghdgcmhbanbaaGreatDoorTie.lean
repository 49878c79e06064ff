/-
  DERIVED. GIVEN WITH THE SEED: THE PROGRAM's TIES (one call each: nine closed facts by the kernel) AND EACH ROW's TIE, after the 31st guide's Derived/Test/Toyas{Tie, Card}.lean. No idea stands in it: it is a product of the set-up. Laid BY PROGRAM, IN A SANDBOX (cutbox-door.mjs). By AI agents, Wed Nov 11 2026. No macro, syntax, notation, axiom, sorry.
-/
import Derived.Test.YtoghdgcmhbanbaaGreatDoorRows
import Derived.LaidByTextLater
import Derived.SevenTiedAt
import Derived.LaidSub
import Derived.LaidOnce
namespace Go.Proofs.YtoghdgcmhbanbaaGreatDoor
open Go
set_option maxRecDepth 100000
theorem seatTie1 : Tryz.prog.laidByTextLater [("warden/sha.rounds", Rows.laid_warden_sha_rounds), ("warden/wardenref02.K", Rows.laid_warden_wardenref02_K), ("warden/snap.parts", Rows.laid_warden_snap_parts)] [.data, .data, .data] true :=
  Program.laidByTextLater_by_one 24 8 65 (by kernel_rfl) (by kernel_rfl) (by kernel_rfl) (by kernel_rfl) (by kernel_rfl) (by kernel_rfl) (fun _ _ => by kernel_rfl)
theorem noOwnUnsafe : Tryz.pinned.checked.prog.headLifts.contains "ownunsafe" = false := by kernel_rfl
theorem tie : Tryz.prog.laidByTextLater [("warden/sha.rounds", Rows.laid_warden_sha_rounds), ("warden/wardenref02.K", Rows.laid_warden_wardenref02_K), ("warden/snap.parts", Rows.laid_warden_snap_parts)] [.data, .data, .data] true :=
  Program.laidByTextLater.sub seatTie1 ["warden/sha.rounds", "warden/wardenref02.K", "warden/snap.parts"] (by kernel_rfl) (by kernel_rfl)
theorem snapForms_row_tie : Rows.snapFormsRow.laidByTextAt .later Tryz.pinned [.data, .data, .data] true :=
  OpenClaim.laidByTextAt_later rfl rfl tie noOwnUnsafe
theorem snapFormsUpto_row_tie : Rows.snapFormsUptoRow.laidByTextAt .later Tryz.pinned [.data, .data, .data] true :=
  OpenClaim.laidByTextAt_later rfl rfl tie noOwnUnsafe
end Go.Proofs.YtoghdgcmhbanbaaGreatDoor
