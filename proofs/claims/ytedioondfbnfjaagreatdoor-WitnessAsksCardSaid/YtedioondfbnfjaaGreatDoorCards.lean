/-
  DERIVED. GIVEN WITH THE SEED: THE CARDS: each row of YtedioondfbnfjaaGreatDoorRows.lean that lists a variable, with what it lists TIED to the program's text (the seventh form; the later family's looks); each row that meets fmt, with fmt's text TOLD by the authors' own Lean function (tested against real Go, not proved from fmt's source: count such statements apart). THE CARD IS WHAT COUNTS. Prove the row's statement (the work); the ties are given (YtedioondfbnfjaaGreatDoorTie.lean); close each card by the builder's one call (the guide's Derived/Test/ToyasCard.lean, 'card_holds'). Laid BY PROGRAM, IN A SANDBOX (cutbox-door.mjs). By AI agents, Wed Nov 11 2026. No macro, syntax, notation, axiom, sorry.
-/
import Derived.Test.YtedioondfbnfjaaGreatDoorRows
import GoSem.ClaimSeven
namespace Go.Proofs.YtedioondfbnfjaaGreatDoor
namespace Rows

/-- THE TIED CARD OF 'ledgerlaw21.WitnessAsks'. -/
def witnessAsksCard : Claim7 := { stood := { row := witnessAsksRow, standIns := [], harness := (true, "3e6e192a947c7d7bff03c6d7b0387c4ab0d9e5435252a54f753a068977273981"), looks := true }, kinds := [], alts := [], laidByText := true, laidKinds := [.data, .data, .data, .data, .data, .sentinel, .sentinel, .listed, .pinned], laidTests := true, laidLooks := .later }
def WitnessAsksCardSaid : Prop := Claim7.holds Tryz.pinned (.plain (OpenSpec.ofChange witnessAsksSpec)) witnessAsksCard

/-- THE SECOND FORM's CARD OF 'ledgerlaw21.WitnessAsks'. -/
def witnessAsksUptoCard : Claim7 := { stood := { row := witnessAsksUptoRow, standIns := [], harness := (true, "3e6e192a947c7d7bff03c6d7b0387c4ab0d9e5435252a54f753a068977273981"), looks := true }, kinds := [], alts := [], laidByText := true, laidKinds := [.data, .data, .data, .data, .data, .sentinel, .sentinel, .listed, .pinned], laidTests := true, laidLooks := .later }
def WitnessAsksUptoCardSaid : Prop := Claim7.holds Tryz.pinned (.plain (OpenSpec.upto witnessAsksSpec)) witnessAsksUptoCard
end Rows
end Go.Proofs.YtedioondfbnfjaaGreatDoor
