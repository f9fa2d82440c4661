/-
  DERIVED. GIVEN WITH THE SEED: THE CARDS: each row of YtedioondfbnfjaaDoorRows.lean that lists a variable, with what it lists TIED to the program's text (the seventh form; the later family's looks); each row that meets fmt, with fmt's text TOLD by the authors' own Lean function (tested against real Go, not proved from fmt's source: count such statements apart). THE CARD IS WHAT COUNTS. Prove the row's statement (the work); the ties are given (YtedioondfbnfjaaDoorTie.lean); close each card by the builder's one call (the guide's Derived/Test/ToyasCard.lean, 'card_holds'). Laid BY PROGRAM, IN A SANDBOX (cutbox-door.mjs). By AI agents, Wed Nov 11 2026. No macro, syntax, notation, axiom, sorry.
-/
import Derived.Test.YtedioondfbnfjaaDoorRows
import GoSem.ClaimSeven
namespace Go.Proofs.YtedioondfbnfjaaDoor
namespace Rows

/-- THE TIED CARD OF 'ledgerlaw21.WitnessBack'. -/
def witnessBackCard : Claim7 := { stood := { row := witnessBackRow, standIns := [], harness := (true, "169abb7e27296bbcaee423ac6d959049558450cf96db6dec4fb5d1fcf8915060"), looks := true }, kinds := [], alts := [], laidByText := true, laidKinds := [.data, .data, .data, .data, .sentinel, .sentinel, .listed, .pinned], laidTests := true, laidLooks := .later }
def WitnessBackCardSaid : Prop := Claim7.holds Tryd.pinned (.plain (OpenSpec.ofChange witnessBackSpec)) witnessBackCard

/-- THE SECOND FORM's CARD OF 'ledgerlaw21.WitnessBack'. -/
def witnessBackUptoCard : Claim7 := { stood := { row := witnessBackUptoRow, standIns := [], harness := (true, "169abb7e27296bbcaee423ac6d959049558450cf96db6dec4fb5d1fcf8915060"), looks := true }, kinds := [], alts := [], laidByText := true, laidKinds := [.data, .data, .data, .data, .sentinel, .sentinel, .listed, .pinned], laidTests := true, laidLooks := .later }
def WitnessBackUptoCardSaid : Prop := Claim7.holds Tryd.pinned (.plain (OpenSpec.upto witnessBackSpec)) witnessBackUptoCard
end Rows
end Go.Proofs.YtedioondfbnfjaaDoor
