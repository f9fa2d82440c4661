/-
  DERIVED. GIVEN WITH THE SEED: THE CARDS: each row of YtfjhhpoabdpdhaaGreatDoorRows.lean that lists a variable, with what it lists TIED to the program's text (the seventh form; the later family's looks); each row that meets fmt, with fmt's text TOLD by the authors' own Lean function (tested against real Go, not proved from fmt's source: count such statements apart). THE CARD IS WHAT COUNTS. Prove the row's statement (the work); the ties are given (YtfjhhpoabdpdhaaGreatDoorTie.lean); close each card by the builder's one call (the guide's Derived/Test/ToyasCard.lean, 'card_holds'). Laid BY PROGRAM, IN A SANDBOX (cutbox-door.mjs). By AI agents, Wed Nov 11 2026. No macro, syntax, notation, axiom, sorry.
-/
import Derived.Test.YtfjhhpoabdpdhaaGreatDoorRows
import GoSem.ClaimSeven
namespace Go.Proofs.YtfjhhpoabdpdhaaGreatDoor
namespace Rows

/-- THE TIED CARD OF 'ledgerlaw12.DiskSwap'. -/
def diskSwapCard : Claim7 := { stood := { row := diskSwapRow, standIns := [], harness := (true, "63be1bd2d0bbdc1cb8665280e311f4cce04e58830771766e7d5b141224076f0a"), looks := true }, kinds := [], alts := [], laidByText := true, laidKinds := [.data, .pinned], laidTests := true, laidLooks := .later }
def DiskSwapCardSaid : Prop := Claim7.holds Tryz.pinned (.plain (OpenSpec.ofChange diskSwapSpec)) diskSwapCard

/-- THE TIED CARD OF 'ledgerlaw12.DiskLasts'. -/
def diskLastsCard : Claim7 := { stood := { row := diskLastsRow, standIns := [], harness := (true, "63be1bd2d0bbdc1cb8665280e311f4cce04e58830771766e7d5b141224076f0a"), looks := true }, kinds := [], alts := [], laidByText := true, laidKinds := [.data, .pinned], laidTests := true, laidLooks := .later }
def DiskLastsCardSaid : Prop := Claim7.holds Tryz.pinned (.plain (OpenSpec.ofChange diskLastsSpec)) diskLastsCard

/-- THE TIED CARD OF 'ledgerlaw12.DiskFails'. -/
def diskFailsCard : Claim7 := { stood := { row := diskFailsRow, standIns := [], harness := (true, "63be1bd2d0bbdc1cb8665280e311f4cce04e58830771766e7d5b141224076f0a"), looks := true }, kinds := [], alts := [], laidByText := true, laidKinds := [.data, .pinned], laidTests := true, laidLooks := .later }
def DiskFailsCardSaid : Prop := Claim7.holds Tryz.pinned (.plain (OpenSpec.ofChange diskFailsSpec)) diskFailsCard

/-- THE TIED CARD OF 'ledgerlaw12.DiskAll'. -/
def diskAllCard : Claim7 := { stood := { row := diskAllRow, standIns := [], harness := (true, "63be1bd2d0bbdc1cb8665280e311f4cce04e58830771766e7d5b141224076f0a"), looks := true }, kinds := [], alts := [], laidByText := true, laidKinds := [.data, .pinned], laidTests := true, laidLooks := .later }
def DiskAllCardSaid : Prop := Claim7.holds Tryz.pinned (.plain (OpenSpec.ofChange diskAllSpec)) diskAllCard

/-- THE TIED CARD OF 'ledgerlaw12.DiskDead'. -/
def diskDeadCard : Claim7 := { stood := { row := diskDeadRow, standIns := [], harness := (true, "63be1bd2d0bbdc1cb8665280e311f4cce04e58830771766e7d5b141224076f0a"), looks := true }, kinds := [], alts := [], laidByText := true, laidKinds := [.data, .pinned], laidTests := true, laidLooks := .later }
def DiskDeadCardSaid : Prop := Claim7.holds Tryz.pinned (.plain (OpenSpec.ofChange diskDeadSpec)) diskDeadCard

/-- THE TIED CARD OF 'ledgerlaw12.DiskWorlds'. -/
def diskWorldsCard : Claim7 := { stood := { row := diskWorldsRow, standIns := [], harness := (true, "63be1bd2d0bbdc1cb8665280e311f4cce04e58830771766e7d5b141224076f0a"), looks := true }, kinds := [], alts := [], laidByText := true, laidKinds := [.data, .pinned], laidTests := true, laidLooks := .later }
def DiskWorldsCardSaid : Prop := Claim7.holds Tryz.pinned (.plain (OpenSpec.ofChange diskWorldsSpec)) diskWorldsCard

/-- THE SECOND FORM's CARD OF 'ledgerlaw12.DiskSwap'. -/
def diskSwapUptoCard : Claim7 := { stood := { row := diskSwapUptoRow, standIns := [], harness := (true, "63be1bd2d0bbdc1cb8665280e311f4cce04e58830771766e7d5b141224076f0a"), looks := true }, kinds := [], alts := [], laidByText := true, laidKinds := [.data, .pinned], laidTests := true, laidLooks := .later }
def DiskSwapUptoCardSaid : Prop := Claim7.holds Tryz.pinned (.plain (OpenSpec.upto diskSwapSpec)) diskSwapUptoCard

/-- THE SECOND FORM's CARD OF 'ledgerlaw12.DiskLasts'. -/
def diskLastsUptoCard : Claim7 := { stood := { row := diskLastsUptoRow, standIns := [], harness := (true, "63be1bd2d0bbdc1cb8665280e311f4cce04e58830771766e7d5b141224076f0a"), looks := true }, kinds := [], alts := [], laidByText := true, laidKinds := [.data, .pinned], laidTests := true, laidLooks := .later }
def DiskLastsUptoCardSaid : Prop := Claim7.holds Tryz.pinned (.plain (OpenSpec.upto diskLastsSpec)) diskLastsUptoCard

/-- THE SECOND FORM's CARD OF 'ledgerlaw12.DiskFails'. -/
def diskFailsUptoCard : Claim7 := { stood := { row := diskFailsUptoRow, standIns := [], harness := (true, "63be1bd2d0bbdc1cb8665280e311f4cce04e58830771766e7d5b141224076f0a"), looks := true }, kinds := [], alts := [], laidByText := true, laidKinds := [.data, .pinned], laidTests := true, laidLooks := .later }
def DiskFailsUptoCardSaid : Prop := Claim7.holds Tryz.pinned (.plain (OpenSpec.upto diskFailsSpec)) diskFailsUptoCard

/-- THE SECOND FORM's CARD OF 'ledgerlaw12.DiskAll'. -/
def diskAllUptoCard : Claim7 := { stood := { row := diskAllUptoRow, standIns := [], harness := (true, "63be1bd2d0bbdc1cb8665280e311f4cce04e58830771766e7d5b141224076f0a"), looks := true }, kinds := [], alts := [], laidByText := true, laidKinds := [.data, .pinned], laidTests := true, laidLooks := .later }
def DiskAllUptoCardSaid : Prop := Claim7.holds Tryz.pinned (.plain (OpenSpec.upto diskAllSpec)) diskAllUptoCard

/-- THE SECOND FORM's CARD OF 'ledgerlaw12.DiskDead'. -/
def diskDeadUptoCard : Claim7 := { stood := { row := diskDeadUptoRow, standIns := [], harness := (true, "63be1bd2d0bbdc1cb8665280e311f4cce04e58830771766e7d5b141224076f0a"), looks := true }, kinds := [], alts := [], laidByText := true, laidKinds := [.data, .pinned], laidTests := true, laidLooks := .later }
def DiskDeadUptoCardSaid : Prop := Claim7.holds Tryz.pinned (.plain (OpenSpec.upto diskDeadSpec)) diskDeadUptoCard

/-- THE SECOND FORM's CARD OF 'ledgerlaw12.DiskWorlds'. -/
def diskWorldsUptoCard : Claim7 := { stood := { row := diskWorldsUptoRow, standIns := [], harness := (true, "63be1bd2d0bbdc1cb8665280e311f4cce04e58830771766e7d5b141224076f0a"), looks := true }, kinds := [], alts := [], laidByText := true, laidKinds := [.data, .pinned], laidTests := true, laidLooks := .later }
def DiskWorldsUptoCardSaid : Prop := Claim7.holds Tryz.pinned (.plain (OpenSpec.upto diskWorldsSpec)) diskWorldsUptoCard
end Rows
end Go.Proofs.YtfjhhpoabdpdhaaGreatDoor
