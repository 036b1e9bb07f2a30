/-
  DERIVED. GIVEN WITH THE SEED: THE PROGRAM's TIES (one call each: nine closed facts by the kernel) AND EACH ROW's TIE, after the 31st guide's Derived/Test/Toyas{Tie, Card}.lean. No idea stands in it: it is a product of the set-up. Laid BY PROGRAM, IN A SANDBOX (cutbox-door.mjs). By AI agents, Wed Nov 11 2026. No macro, syntax, notation, axiom, sorry.
-/
import Derived.Test.YtefloieanpgnmaaDoorRows
import Derived.LaidByTextLater
import Derived.SevenTiedAt
import Derived.LaidSub
import Derived.LaidOnce
namespace Go.Proofs.YtefloieanpgnmaaDoor
open Go
set_option maxRecDepth 100000
theorem seatTie1 : Tryd.prog.laidByTextLater [("copydesk/wire.shifts", Rows.laid_copydesk_wire_shifts), ("copydesk/delta.errWire", Rows.laid_copydesk_delta_errWire), ("copydesk/delta.errDelta", Rows.laid_copydesk_delta_errDelta)] [.data, .sentinel, .sentinel] true :=
  Program.laidByTextLater_by_one 52 8 17 (by kernel_rfl) (by kernel_rfl) (by kernel_rfl) (by kernel_rfl) (by kernel_rfl) (by kernel_rfl) (fun _ _ => by kernel_rfl)
theorem noOwnUnsafe : Tryd.pinned.checked.prog.headLifts.contains "ownunsafe" = false := by kernel_rfl
theorem tie : Tryd.prog.laidByTextLater [("copydesk/wire.shifts", Rows.laid_copydesk_wire_shifts), ("copydesk/delta.errWire", Rows.laid_copydesk_delta_errWire), ("copydesk/delta.errDelta", Rows.laid_copydesk_delta_errDelta)] [.data, .sentinel, .sentinel] true :=
  Program.laidByTextLater.sub seatTie1 ["copydesk/wire.shifts", "copydesk/delta.errWire", "copydesk/delta.errDelta"] (by kernel_rfl) (by kernel_rfl)
theorem senderNumbers_row_tie : Rows.senderNumbersRow.laidByTextAt .later Tryd.pinned [.data, .sentinel, .sentinel] true :=
  OpenClaim.laidByTextAt_later rfl rfl tie noOwnUnsafe
theorem senderTexts_row_tie : Rows.senderTextsRow.laidByTextAt .later Tryd.pinned [.data, .sentinel, .sentinel] true :=
  OpenClaim.laidByTextAt_later rfl rfl tie noOwnUnsafe
theorem senderIgnores_row_tie : Rows.senderIgnoresRow.laidByTextAt .later Tryd.pinned [.data, .sentinel, .sentinel] true :=
  OpenClaim.laidByTextAt_later rfl rfl tie noOwnUnsafe
theorem senderNumbersUpto_row_tie : Rows.senderNumbersUptoRow.laidByTextAt .later Tryd.pinned [.data, .sentinel, .sentinel] true :=
  OpenClaim.laidByTextAt_later rfl rfl tie noOwnUnsafe
theorem senderTextsUpto_row_tie : Rows.senderTextsUptoRow.laidByTextAt .later Tryd.pinned [.data, .sentinel, .sentinel] true :=
  OpenClaim.laidByTextAt_later rfl rfl tie noOwnUnsafe
theorem senderIgnoresUpto_row_tie : Rows.senderIgnoresUptoRow.laidByTextAt .later Tryd.pinned [.data, .sentinel, .sentinel] true :=
  OpenClaim.laidByTextAt_later rfl rfl tie noOwnUnsafe
end Go.Proofs.YtefloieanpgnmaaDoor
