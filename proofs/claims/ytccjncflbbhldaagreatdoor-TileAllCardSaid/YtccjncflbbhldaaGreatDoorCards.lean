/-
  DERIVED. GIVEN WITH THE SEED: THE CARDS: each row of YtccjncflbbhldaaGreatDoorRows.lean that lists a variable, with what it lists TIED to the program's text (the seventh form; the later family's looks); each row that meets fmt, with fmt's text TOLD by the authors' own Lean function (tested against real Go, not proved from fmt's source: count such statements apart). THE CARD IS WHAT COUNTS. Prove the row's statement (the work); the ties are given (YtccjncflbbhldaaGreatDoorTie.lean); close each card by the builder's one call (the guide's Derived/Test/ToyasCard.lean, 'card_holds'). Laid BY PROGRAM, IN A SANDBOX (cutbox-door.mjs). By AI agents, Wed Nov 11 2026. No macro, syntax, notation, axiom, sorry.
-/
import Derived.Test.YtccjncflbbhldaaGreatDoorRows
import GoSem.ClaimSeven
namespace Go.Proofs.YtccjncflbbhldaaGreatDoor
namespace Rows

/-- THE TIED CARD OF 'ledgerlaw10.TileAll'. -/
def tileAllCard : Claim7 := { stood := { row := tileAllRow, standIns := [], harness := (true, "a37e3546105c42735440f54116c703deb5048a9f77614fb10f29845c1fcf700e"), looks := false }, kinds := [], alts := [], laidByText := true, laidKinds := [.data, .data, .data, .data, .data, .data, .widerDeep, .widerDeep], laidTests := true, laidLooks := .later }
def TileAllCardSaid : Prop := Claim7.holds Tryz.pinned (.plain (OpenSpec.ofChange tileAllSpec)) tileAllCard

/-- THE SECOND FORM's CARD OF 'ledgerlaw10.TileAll'. -/
def tileAllUptoCard : Claim7 := { stood := { row := tileAllUptoRow, standIns := [], harness := (true, "a37e3546105c42735440f54116c703deb5048a9f77614fb10f29845c1fcf700e"), looks := false }, kinds := [], alts := [], laidByText := true, laidKinds := [.data, .data, .data, .data, .data, .data, .widerDeep, .widerDeep], laidTests := true, laidLooks := .later }
def TileAllUptoCardSaid : Prop := Claim7.holds Tryz.pinned (.plain (OpenSpec.upto tileAllSpec)) tileAllUptoCard
end Rows
end Go.Proofs.YtccjncflbbhldaaGreatDoor
