/-
  DERIVED. GIVEN WITH THE SEED: THE PROGRAM's TIES (one call each: nine closed facts by the kernel) AND EACH ROW's TIE, after the 31st guide's Derived/Test/Toyas{Tie, Card}.lean. No idea stands in it: it is a product of the set-up. Laid BY PROGRAM, IN A SANDBOX (cutbox-door.mjs). By AI agents, Wed Nov 11 2026. No macro, syntax, notation, axiom, sorry.
-/
import Derived.Test.YtmpklnhmempmgaaGreatDoorRows
import Derived.LaidByTextLater
import Derived.SevenTiedAt
import Derived.LaidSub
import Derived.LaidOnce
namespace Go.Proofs.YtmpklnhmempmgaaGreatDoor
open Go
set_option maxRecDepth 100000
theorem seatTie1 : Tryz.prog.laidByTextLater [("signet/ed.primeLimbs", Rows.laid_signet_ed_primeLimbs), ("signet/ed.curveLimbs", Rows.laid_signet_ed_curveLimbs), ("signet/ed.rootLimbs", Rows.laid_signet_ed_rootLimbs)] [.data, .data, .data] true :=
  Program.laidByTextLater_by_one 24 8 9 (by kernel_rfl) (by kernel_rfl) (by kernel_rfl) (by kernel_rfl) (by kernel_rfl) (by kernel_rfl) (fun _ _ => by kernel_rfl)
theorem noOwnUnsafe : Tryz.pinned.checked.prog.headLifts.contains "ownunsafe" = false := by kernel_rfl
theorem tie : Tryz.prog.laidByTextLater [("signet/ed.primeLimbs", Rows.laid_signet_ed_primeLimbs), ("signet/ed.curveLimbs", Rows.laid_signet_ed_curveLimbs), ("signet/ed.rootLimbs", Rows.laid_signet_ed_rootLimbs)] [.data, .data, .data] true :=
  Program.laidByTextLater.sub seatTie1 ["signet/ed.primeLimbs", "signet/ed.curveLimbs", "signet/ed.rootLimbs"] (by kernel_rfl) (by kernel_rfl)
theorem spkiChecks_row_tie : Rows.spkiChecksRow.laidByTextAt .later Tryz.pinned [.data, .data, .data] true :=
  OpenClaim.laidByTextAt_later rfl rfl tie noOwnUnsafe
theorem spkiChecksUpto_row_tie : Rows.spkiChecksUptoRow.laidByTextAt .later Tryz.pinned [.data, .data, .data] true :=
  OpenClaim.laidByTextAt_later rfl rfl tie noOwnUnsafe
end Go.Proofs.YtmpklnhmempmgaaGreatDoor
