/-
  DERIVED. GIVEN WITH THE SEED: THE PROGRAM's TIES (one call each: nine closed facts by the kernel) AND EACH ROW's TIE, after the 31st guide's Derived/Test/Toyas{Tie, Card}.lean. No idea stands in it: it is a product of the set-up. Laid BY PROGRAM, IN A SANDBOX (cutbox-door.mjs). By AI agents, Wed Nov 11 2026. No macro, syntax, notation, axiom, sorry.
-/
import Derived.Test.YtccjncflbbhldaaGreatDoorRows
import Derived.LaidByTextLater
import Derived.SevenTiedAt
import Derived.LaidSub
import Derived.LaidOnce
namespace Go.Proofs.YtccjncflbbhldaaGreatDoor
open Go
set_option maxRecDepth 100000
theorem seatTie1 : Tryz.prog.laidByTextLater [("ledger/ledgerref01.squares", Rows.laid_ledger_ledgerref01_squares), ("ledger/ledgerref01.cubes", Rows.laid_ledger_ledgerref01_cubes), ("ledger/ledgerref01.turns", Rows.laid_ledger_ledgerref01_turns), ("ledger/sha.turns256", Rows.laid_ledger_sha_turns256), ("ledger/sha.turns512", Rows.laid_ledger_sha_turns512), ("ledger/sha.starts", Rows.laid_ledger_sha_starts), ("ledger/sha.rounds256", Rows.laid_ledger_sha_rounds256), ("ledger/sha.rounds512", Rows.laid_ledger_sha_rounds512)] [.data, .data, .data, .data, .data, .data, .widerDeep, .widerDeep] true :=
  Program.laidByTextLater_by_one 60 8 81 (by kernel_rfl) (by kernel_rfl) (by kernel_rfl) (by kernel_rfl) (by kernel_rfl) (by kernel_rfl) (fun _ _ => by kernel_rfl)
theorem noOwnUnsafe : Tryz.pinned.checked.prog.headLifts.contains "ownunsafe" = false := by kernel_rfl
theorem tie : Tryz.prog.laidByTextLater [("ledger/ledgerref01.squares", Rows.laid_ledger_ledgerref01_squares), ("ledger/ledgerref01.cubes", Rows.laid_ledger_ledgerref01_cubes), ("ledger/ledgerref01.turns", Rows.laid_ledger_ledgerref01_turns), ("ledger/sha.turns256", Rows.laid_ledger_sha_turns256), ("ledger/sha.turns512", Rows.laid_ledger_sha_turns512), ("ledger/sha.starts", Rows.laid_ledger_sha_starts), ("ledger/sha.rounds256", Rows.laid_ledger_sha_rounds256), ("ledger/sha.rounds512", Rows.laid_ledger_sha_rounds512)] [.data, .data, .data, .data, .data, .data, .widerDeep, .widerDeep] true :=
  Program.laidByTextLater.sub seatTie1 ["ledger/ledgerref01.squares", "ledger/ledgerref01.cubes", "ledger/ledgerref01.turns", "ledger/sha.turns256", "ledger/sha.turns512", "ledger/sha.starts", "ledger/sha.rounds256", "ledger/sha.rounds512"] (by kernel_rfl) (by kernel_rfl)
theorem tileAll_row_tie : Rows.tileAllRow.laidByTextAt .later Tryz.pinned [.data, .data, .data, .data, .data, .data, .widerDeep, .widerDeep] true :=
  OpenClaim.laidByTextAt_later rfl rfl tie noOwnUnsafe
theorem tileAllUpto_row_tie : Rows.tileAllUptoRow.laidByTextAt .later Tryz.pinned [.data, .data, .data, .data, .data, .data, .widerDeep, .widerDeep] true :=
  OpenClaim.laidByTextAt_later rfl rfl tie noOwnUnsafe
end Go.Proofs.YtccjncflbbhldaaGreatDoor
