/-
  DERIVED. GIVEN WITH THE SEED: THE CARDS: each row of YtccjncflbbhldaaDoorRows.lean that lists a variable, with what it lists TIED to the program's text (the seventh form; the later family's looks); each row that meets fmt, with fmt's text TOLD by the authors' own Lean function (tested against real Go, not proved from fmt's source: count such statements apart). THE CARD IS WHAT COUNTS. Prove the row's statement (the work); the ties are given (YtccjncflbbhldaaDoorTie.lean); close each card by the builder's one call (the guide's Derived/Test/ToyasCard.lean, 'card_holds'). Laid BY PROGRAM, IN A SANDBOX (cutbox-door.mjs). By AI agents, Wed Nov 11 2026. No macro, syntax, notation, axiom, sorry.
-/
import Derived.Test.YtccjncflbbhldaaDoorRows
import GoSem.ClaimSeven
namespace Go.Proofs.YtccjncflbbhldaaDoor
namespace Rows

/-- THE TIED CARD OF 'ledgerlaw10.TileBytes'. -/
def tileBytesCard : Claim7 := { stood := { row := tileBytesRow, standIns := [], harness := (true, "c9fa8db79d7a4076d53239493a8c6aaea10229c805428d9ece463d4a69c95b5d"), looks := true }, kinds := [], alts := [], laidByText := true, laidKinds := [.data, .data, .data, .data, .data, .data, .widerDeep, .widerDeep], laidTests := true, laidLooks := .later }
def TileBytesCardSaid : Prop := Claim7.holds Tryd.pinned (.plain (OpenSpec.ofChange tileBytesSpec)) tileBytesCard

/-- THE TIED CARD OF 'ledgerlaw10.TileWidths'. -/
def tileWidthsCard : Claim7 := { stood := { row := tileWidthsRow, standIns := [], harness := (true, "c9fa8db79d7a4076d53239493a8c6aaea10229c805428d9ece463d4a69c95b5d"), looks := true }, kinds := [], alts := [], laidByText := true, laidKinds := [.data, .data, .data, .widerDeep, .widerDeep], laidTests := true, laidLooks := .later }
def TileWidthsCardSaid : Prop := Claim7.holds Tryd.pinned (.plain (OpenSpec.ofChange tileWidthsSpec)) tileWidthsCard

/-- THE TIED CARD OF 'ledgerlaw10.TileReads'. -/
def tileReadsCard : Claim7 := { stood := { row := tileReadsRow, standIns := [], harness := (true, "c9fa8db79d7a4076d53239493a8c6aaea10229c805428d9ece463d4a69c95b5d"), looks := true }, kinds := [], alts := [], laidByText := true, laidKinds := [.data, .data, .data, .widerDeep, .widerDeep], laidTests := true, laidLooks := .later }
def TileReadsCardSaid : Prop := Claim7.holds Tryd.pinned (.plain (OpenSpec.ofChange tileReadsSpec)) tileReadsCard

/-- THE TIED CARD OF 'ledgerlaw10.TileSpoilt'. -/
def tileSpoiltCard : Claim7 := { stood := { row := tileSpoiltRow, standIns := [], harness := (true, "c9fa8db79d7a4076d53239493a8c6aaea10229c805428d9ece463d4a69c95b5d"), looks := true }, kinds := [], alts := [], laidByText := true, laidKinds := [.data, .data, .data, .widerDeep, .widerDeep], laidTests := true, laidLooks := .later }
def TileSpoiltCardSaid : Prop := Claim7.holds Tryd.pinned (.plain (OpenSpec.ofChange tileSpoiltSpec)) tileSpoiltCard

/-- THE TIED CARD OF 'ledgerlaw10.TilePaths'. -/
def tilePathsCard : Claim7 := { stood := { row := tilePathsRow, standIns := [], harness := (true, "c9fa8db79d7a4076d53239493a8c6aaea10229c805428d9ece463d4a69c95b5d"), looks := true }, kinds := [], alts := [], laidByText := true, laidKinds := [.data, .data, .data, .data, .sentinel, .sentinel, .pinned], laidTests := true, laidLooks := .later }
def TilePathsCardSaid : Prop := Claim7.holds Tryd.pinned (.plain (OpenSpec.ofChange tilePathsSpec)) tilePathsCard

/-- THE TIED CARD OF 'ledgerlaw10.TileOnce'. -/
def tileOnceCard : Claim7 := { stood := { row := tileOnceRow, standIns := [], harness := (true, "c9fa8db79d7a4076d53239493a8c6aaea10229c805428d9ece463d4a69c95b5d"), looks := true }, kinds := [], alts := [], laidByText := true, laidKinds := [.data, .data, .data, .data, .sentinel, .sentinel, .pinned], laidTests := true, laidLooks := .later }
def TileOnceCardSaid : Prop := Claim7.holds Tryd.pinned (.plain (OpenSpec.ofChange tileOnceSpec)) tileOnceCard

/-- THE SECOND FORM's CARD OF 'ledgerlaw10.TileBytes'. -/
def tileBytesUptoCard : Claim7 := { stood := { row := tileBytesUptoRow, standIns := [], harness := (true, "c9fa8db79d7a4076d53239493a8c6aaea10229c805428d9ece463d4a69c95b5d"), looks := true }, kinds := [], alts := [], laidByText := true, laidKinds := [.data, .data, .data, .data, .data, .data, .widerDeep, .widerDeep], laidTests := true, laidLooks := .later }
def TileBytesUptoCardSaid : Prop := Claim7.holds Tryd.pinned (.plain (OpenSpec.upto tileBytesSpec)) tileBytesUptoCard

/-- THE SECOND FORM's CARD OF 'ledgerlaw10.TileWidths'. -/
def tileWidthsUptoCard : Claim7 := { stood := { row := tileWidthsUptoRow, standIns := [], harness := (true, "c9fa8db79d7a4076d53239493a8c6aaea10229c805428d9ece463d4a69c95b5d"), looks := true }, kinds := [], alts := [], laidByText := true, laidKinds := [.data, .data, .data, .widerDeep, .widerDeep], laidTests := true, laidLooks := .later }
def TileWidthsUptoCardSaid : Prop := Claim7.holds Tryd.pinned (.plain (OpenSpec.upto tileWidthsSpec)) tileWidthsUptoCard

/-- THE SECOND FORM's CARD OF 'ledgerlaw10.TileReads'. -/
def tileReadsUptoCard : Claim7 := { stood := { row := tileReadsUptoRow, standIns := [], harness := (true, "c9fa8db79d7a4076d53239493a8c6aaea10229c805428d9ece463d4a69c95b5d"), looks := true }, kinds := [], alts := [], laidByText := true, laidKinds := [.data, .data, .data, .widerDeep, .widerDeep], laidTests := true, laidLooks := .later }
def TileReadsUptoCardSaid : Prop := Claim7.holds Tryd.pinned (.plain (OpenSpec.upto tileReadsSpec)) tileReadsUptoCard

/-- THE SECOND FORM's CARD OF 'ledgerlaw10.TileSpoilt'. -/
def tileSpoiltUptoCard : Claim7 := { stood := { row := tileSpoiltUptoRow, standIns := [], harness := (true, "c9fa8db79d7a4076d53239493a8c6aaea10229c805428d9ece463d4a69c95b5d"), looks := true }, kinds := [], alts := [], laidByText := true, laidKinds := [.data, .data, .data, .widerDeep, .widerDeep], laidTests := true, laidLooks := .later }
def TileSpoiltUptoCardSaid : Prop := Claim7.holds Tryd.pinned (.plain (OpenSpec.upto tileSpoiltSpec)) tileSpoiltUptoCard

/-- THE SECOND FORM's CARD OF 'ledgerlaw10.TilePaths'. -/
def tilePathsUptoCard : Claim7 := { stood := { row := tilePathsUptoRow, standIns := [], harness := (true, "c9fa8db79d7a4076d53239493a8c6aaea10229c805428d9ece463d4a69c95b5d"), looks := true }, kinds := [], alts := [], laidByText := true, laidKinds := [.data, .data, .data, .data, .sentinel, .sentinel, .pinned], laidTests := true, laidLooks := .later }
def TilePathsUptoCardSaid : Prop := Claim7.holds Tryd.pinned (.plain (OpenSpec.upto tilePathsSpec)) tilePathsUptoCard

/-- THE SECOND FORM's CARD OF 'ledgerlaw10.TileOnce'. -/
def tileOnceUptoCard : Claim7 := { stood := { row := tileOnceUptoRow, standIns := [], harness := (true, "c9fa8db79d7a4076d53239493a8c6aaea10229c805428d9ece463d4a69c95b5d"), looks := true }, kinds := [], alts := [], laidByText := true, laidKinds := [.data, .data, .data, .data, .sentinel, .sentinel, .pinned], laidTests := true, laidLooks := .later }
def TileOnceUptoCardSaid : Prop := Claim7.holds Tryd.pinned (.plain (OpenSpec.upto tileOnceSpec)) tileOnceUptoCard
end Rows
end Go.Proofs.YtccjncflbbhldaaDoor
