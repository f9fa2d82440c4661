/-
  DERIVED. GIVEN WITH THE SEED: THE CARDS: each row of YtfjhhpoabdpdhaaDoorRows.lean that lists a variable, with what it lists TIED to the program's text (the seventh form; the later family's looks); each row that meets fmt, with fmt's text TOLD by the authors' own Lean function (tested against real Go, not proved from fmt's source: count such statements apart). THE CARD IS WHAT COUNTS. Prove the row's statement (the work); the ties are given (YtfjhhpoabdpdhaaDoorTie.lean); close each card by the builder's one call (the guide's Derived/Test/ToyasCard.lean, 'card_holds'). Laid BY PROGRAM, IN A SANDBOX (cutbox-door.mjs). By AI agents, Wed Nov 11 2026. No macro, syntax, notation, axiom, sorry.
-/
import Derived.Test.YtfjhhpoabdpdhaaDoorRows
import GoSem.ClaimSeven
namespace Go.Proofs.YtfjhhpoabdpdhaaDoor
namespace Rows

/-- THE TIED CARD OF 'ledgerlaw12.DiskWrites'. -/
def diskWritesCard : Claim7 := { stood := { row := diskWritesRow, standIns := [], harness := (true, "15d2688768aae1df8f8be65c2ddce2d918c88adf2a98dcec079497fe2c8e3460"), looks := true }, kinds := [], alts := [], laidByText := true, laidKinds := [.data, .pinned], laidTests := true, laidLooks := .later }
def DiskWritesCardSaid : Prop := Claim7.holds Tryd.pinned (.plain (OpenSpec.ofChange diskWritesSpec)) diskWritesCard

/-- THE TIED CARD OF 'ledgerlaw12.DiskLoads'. -/
def diskLoadsCard : Claim7 := { stood := { row := diskLoadsRow, standIns := [], harness := (true, "15d2688768aae1df8f8be65c2ddce2d918c88adf2a98dcec079497fe2c8e3460"), looks := true }, kinds := [], alts := [], laidByText := true, laidKinds := [.data, .pinned], laidTests := true, laidLooks := .later }
def DiskLoadsCardSaid : Prop := Claim7.holds Tryd.pinned (.plain (OpenSpec.ofChange diskLoadsSpec)) diskLoadsCard

/-- THE TIED CARD OF 'ledgerlaw12.DiskNames'. -/
def diskNamesCard : Claim7 := { stood := { row := diskNamesRow, standIns := [], harness := (true, "15d2688768aae1df8f8be65c2ddce2d918c88adf2a98dcec079497fe2c8e3460"), looks := true }, kinds := [], alts := [], laidByText := true, laidKinds := [.data, .pinned], laidTests := true, laidLooks := .later }
def DiskNamesCardSaid : Prop := Claim7.holds Tryd.pinned (.plain (OpenSpec.ofChange diskNamesSpec)) diskNamesCard

/-- THE TIED CARD OF 'ledgerlaw12.DiskPrefix'. -/
def diskPrefixCard : Claim7 := { stood := { row := diskPrefixRow, standIns := [], harness := (true, "15d2688768aae1df8f8be65c2ddce2d918c88adf2a98dcec079497fe2c8e3460"), looks := true }, kinds := [], alts := [], laidByText := true, laidKinds := [.data, .pinned], laidTests := true, laidLooks := .later }
def DiskPrefixCardSaid : Prop := Claim7.holds Tryd.pinned (.plain (OpenSpec.ofChange diskPrefixSpec)) diskPrefixCard

/-- THE SECOND FORM's CARD OF 'ledgerlaw12.DiskWrites'. -/
def diskWritesUptoCard : Claim7 := { stood := { row := diskWritesUptoRow, standIns := [], harness := (true, "15d2688768aae1df8f8be65c2ddce2d918c88adf2a98dcec079497fe2c8e3460"), looks := true }, kinds := [], alts := [], laidByText := true, laidKinds := [.data, .pinned], laidTests := true, laidLooks := .later }
def DiskWritesUptoCardSaid : Prop := Claim7.holds Tryd.pinned (.plain (OpenSpec.upto diskWritesSpec)) diskWritesUptoCard

/-- THE SECOND FORM's CARD OF 'ledgerlaw12.DiskLoads'. -/
def diskLoadsUptoCard : Claim7 := { stood := { row := diskLoadsUptoRow, standIns := [], harness := (true, "15d2688768aae1df8f8be65c2ddce2d918c88adf2a98dcec079497fe2c8e3460"), looks := true }, kinds := [], alts := [], laidByText := true, laidKinds := [.data, .pinned], laidTests := true, laidLooks := .later }
def DiskLoadsUptoCardSaid : Prop := Claim7.holds Tryd.pinned (.plain (OpenSpec.upto diskLoadsSpec)) diskLoadsUptoCard

/-- THE SECOND FORM's CARD OF 'ledgerlaw12.DiskNames'. -/
def diskNamesUptoCard : Claim7 := { stood := { row := diskNamesUptoRow, standIns := [], harness := (true, "15d2688768aae1df8f8be65c2ddce2d918c88adf2a98dcec079497fe2c8e3460"), looks := true }, kinds := [], alts := [], laidByText := true, laidKinds := [.data, .pinned], laidTests := true, laidLooks := .later }
def DiskNamesUptoCardSaid : Prop := Claim7.holds Tryd.pinned (.plain (OpenSpec.upto diskNamesSpec)) diskNamesUptoCard

/-- THE SECOND FORM's CARD OF 'ledgerlaw12.DiskPrefix'. -/
def diskPrefixUptoCard : Claim7 := { stood := { row := diskPrefixUptoRow, standIns := [], harness := (true, "15d2688768aae1df8f8be65c2ddce2d918c88adf2a98dcec079497fe2c8e3460"), looks := true }, kinds := [], alts := [], laidByText := true, laidKinds := [.data, .pinned], laidTests := true, laidLooks := .later }
def DiskPrefixUptoCardSaid : Prop := Claim7.holds Tryd.pinned (.plain (OpenSpec.upto diskPrefixSpec)) diskPrefixUptoCard
end Rows
end Go.Proofs.YtfjhhpoabdpdhaaDoor
