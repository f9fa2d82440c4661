/-
  DERIVED. GIVEN WITH THE SEED: THE CARDS: each row of YtbckabomelngmaaDoorRows.lean that lists a variable, with what it lists TIED to the program's text (the seventh form; the later family's looks); each row that meets fmt, with fmt's text TOLD by the authors' own Lean function (tested against real Go, not proved from fmt's source: count such statements apart). THE CARD IS WHAT COUNTS. Prove the row's statement (the work); the ties are given (YtbckabomelngmaaDoorTie.lean); close each card by the builder's one call (the guide's Derived/Test/ToyasCard.lean, 'card_holds'). Laid BY PROGRAM, IN A SANDBOX (cutbox-door.mjs). By AI agents, Wed Nov 11 2026. No macro, syntax, notation, axiom, sorry.
-/
import Derived.Test.YtbckabomelngmaaDoorRows
import GoSem.ClaimSeven
namespace Go.Proofs.YtbckabomelngmaaDoor
namespace Rows

/-- THE TIED CARD OF 'ledgerlaw07.NoteNames'. -/
def noteNamesCard : Claim7 := { stood := { row := noteNamesRow, standIns := [], harness := (true, "a589781ff4e07d633c922fb92bad0765967bb3c944659fe2c3d415e8b29a792e"), looks := true }, kinds := [], alts := [], laidByText := true, laidKinds := [.data, .data, .listed, .pinned], laidTests := true, laidLooks := .later }
def NoteNamesCardSaid : Prop := Claim7.holds Tryd.pinned (.plain (OpenSpec.ofChange noteNamesSpec)) noteNamesCard

/-- THE TIED CARD OF 'ledgerlaw07.NoteForms'. -/
def noteFormsCard : Claim7 := { stood := { row := noteFormsRow, standIns := [], harness := (true, "a589781ff4e07d633c922fb92bad0765967bb3c944659fe2c3d415e8b29a792e"), looks := true }, kinds := [], alts := [], laidByText := true, laidKinds := [.data, .data, .listed, .pinned], laidTests := true, laidLooks := .later }
def NoteFormsCardSaid : Prop := Claim7.holds Tryd.pinned (.plain (OpenSpec.ofChange noteFormsSpec)) noteFormsCard

/-- THE TIED CARD OF 'ledgerlaw07.NoteBack'. -/
def noteBackCard : Claim7 := { stood := { row := noteBackRow, standIns := [], harness := (true, "a589781ff4e07d633c922fb92bad0765967bb3c944659fe2c3d415e8b29a792e"), looks := true }, kinds := [], alts := [], laidByText := true, laidKinds := [.data, .listed, .pinned], laidTests := true, laidLooks := .later }
def NoteBackCardSaid : Prop := Claim7.holds Tryd.pinned (.plain (OpenSpec.ofChange noteBackSpec)) noteBackCard

/-- THE TIED CARD OF 'ledgerlaw07.NoteHeads'. -/
def noteHeadsCard : Claim7 := { stood := { row := noteHeadsRow, standIns := [], harness := (true, "a589781ff4e07d633c922fb92bad0765967bb3c944659fe2c3d415e8b29a792e"), looks := true }, kinds := [], alts := [], laidByText := true, laidKinds := [.data, .data, .data, .data, .data, .sentinel, .sentinel, .listed, .pinned], laidTests := true, laidLooks := .later }
def NoteHeadsCardSaid : Prop := Claim7.holds Tryd.pinned (.plain (OpenSpec.ofChange noteHeadsSpec)) noteHeadsCard

/-- THE TIED CARD OF 'ledgerlaw07.NoteHeadBack'. -/
def noteHeadBackCard : Claim7 := { stood := { row := noteHeadBackRow, standIns := [], harness := (true, "a589781ff4e07d633c922fb92bad0765967bb3c944659fe2c3d415e8b29a792e"), looks := true }, kinds := [], alts := [], laidByText := true, laidKinds := [.data, .data, .data, .data, .sentinel, .sentinel, .listed, .pinned], laidTests := true, laidLooks := .later }
def NoteHeadBackCardSaid : Prop := Claim7.holds Tryd.pinned (.plain (OpenSpec.ofChange noteHeadBackSpec)) noteHeadBackCard

/-- THE SECOND FORM's CARD OF 'ledgerlaw07.NoteNames'. -/
def noteNamesUptoCard : Claim7 := { stood := { row := noteNamesUptoRow, standIns := [], harness := (true, "a589781ff4e07d633c922fb92bad0765967bb3c944659fe2c3d415e8b29a792e"), looks := true }, kinds := [], alts := [], laidByText := true, laidKinds := [.data, .data, .listed, .pinned], laidTests := true, laidLooks := .later }
def NoteNamesUptoCardSaid : Prop := Claim7.holds Tryd.pinned (.plain (OpenSpec.upto noteNamesSpec)) noteNamesUptoCard

/-- THE SECOND FORM's CARD OF 'ledgerlaw07.NoteForms'. -/
def noteFormsUptoCard : Claim7 := { stood := { row := noteFormsUptoRow, standIns := [], harness := (true, "a589781ff4e07d633c922fb92bad0765967bb3c944659fe2c3d415e8b29a792e"), looks := true }, kinds := [], alts := [], laidByText := true, laidKinds := [.data, .data, .listed, .pinned], laidTests := true, laidLooks := .later }
def NoteFormsUptoCardSaid : Prop := Claim7.holds Tryd.pinned (.plain (OpenSpec.upto noteFormsSpec)) noteFormsUptoCard

/-- THE SECOND FORM's CARD OF 'ledgerlaw07.NoteBack'. -/
def noteBackUptoCard : Claim7 := { stood := { row := noteBackUptoRow, standIns := [], harness := (true, "a589781ff4e07d633c922fb92bad0765967bb3c944659fe2c3d415e8b29a792e"), looks := true }, kinds := [], alts := [], laidByText := true, laidKinds := [.data, .listed, .pinned], laidTests := true, laidLooks := .later }
def NoteBackUptoCardSaid : Prop := Claim7.holds Tryd.pinned (.plain (OpenSpec.upto noteBackSpec)) noteBackUptoCard

/-- THE SECOND FORM's CARD OF 'ledgerlaw07.NoteHeads'. -/
def noteHeadsUptoCard : Claim7 := { stood := { row := noteHeadsUptoRow, standIns := [], harness := (true, "a589781ff4e07d633c922fb92bad0765967bb3c944659fe2c3d415e8b29a792e"), looks := true }, kinds := [], alts := [], laidByText := true, laidKinds := [.data, .data, .data, .data, .data, .sentinel, .sentinel, .listed, .pinned], laidTests := true, laidLooks := .later }
def NoteHeadsUptoCardSaid : Prop := Claim7.holds Tryd.pinned (.plain (OpenSpec.upto noteHeadsSpec)) noteHeadsUptoCard

/-- THE SECOND FORM's CARD OF 'ledgerlaw07.NoteHeadBack'. -/
def noteHeadBackUptoCard : Claim7 := { stood := { row := noteHeadBackUptoRow, standIns := [], harness := (true, "a589781ff4e07d633c922fb92bad0765967bb3c944659fe2c3d415e8b29a792e"), looks := true }, kinds := [], alts := [], laidByText := true, laidKinds := [.data, .data, .data, .data, .sentinel, .sentinel, .listed, .pinned], laidTests := true, laidLooks := .later }
def NoteHeadBackUptoCardSaid : Prop := Claim7.holds Tryd.pinned (.plain (OpenSpec.upto noteHeadBackSpec)) noteHeadBackUptoCard
end Rows
end Go.Proofs.YtbckabomelngmaaDoor
