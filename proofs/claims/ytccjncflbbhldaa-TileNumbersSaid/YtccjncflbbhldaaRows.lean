/-
  No cell of these rows narrows 'for every input' (looked for: loops, veiled, ifaces, maps, wideKeys, modest, calm, conditions, laid).
  DERIVED. THE GIVEN ROWS OF THIS SEAT. 4 by the template 'for every input the law returns true; each argument reads behind the call as it read before'; 0 by the template 'total and deterministic' (their statements: YtccjncflbbhldaaTotals.lean).
  GIVEN WITH THE SEED: the statements are not yours to turn. If you find one false, say at which input.
  Laid BY PROGRAM, IN A SANDBOX (cutbox-rows.mjs): the forced cells as the released guide's own fill.sh prints them over the translation ce7c621b3c8eb6a4… (all of the seat's roots in one cut). By AI agents, Wed Nov 11 2026. No macro, syntax, notation, axiom, sorry.
-/
import Derived.Test.YtccjncflbbhldaaChecked
import GoSem.Claim
import GoSem.ClaimJoined
import GoSem.ClaimMapViews
import Derived.JoinedTies
import Derived.KernelRfl
namespace Go.Proofs.Ytccjncflbbhldaa
/- THE CELL 'sum', in the pinned program and in every row, IS THE sha256 OF THE DUMP (.gsa) THAT YtccjncflbbhldaaProg.lean LOADS. Nothing in Lean hashes anything: it is a label: what it is worth is what the hold of that sum in a sandbox is worth. -/
noncomputable def Try.pinned : Pinned := { name := "ytccjncflbbhldaa", sum := "ce7c621b3c8eb6a42ff76b8c2a7d7525dea7c4aaa3101a8aee2bc79716a0bf4a", checked := Try.checked }
namespace Rows
def none {H : Type} : Left H := { results := [], args := [] }

/-- 'ledgerlaw10.TileRecords': WHATEVER THE INPUT: true; the input reads as it did. -/
def tileRecordsSpec : ChangeSpec := { name := "tileRecords", fn := fun _ => fun
  | [d1, d2, d3] => { results := [.lit (.bool true)], args := [d1, d2, d3] }
  | _ => none }
def tileRecordsRow : OpenClaim := { program := "ytccjncflbbhldaa", sum := "ce7c621b3c8eb6a42ff76b8c2a7d7525dea7c4aaa3101a8aee2bc79716a0bf4a", func := "ledger/ledgerlaw10.TileRecords", spec := "tileRecords", plainKeys := false, apart := false }
def TileRecordsSaid : Prop := tileRecordsRow.holds Try.pinned (OpenSpec.ofChange tileRecordsSpec)

/-- ITS FALSE NEIGHBOUR: 'it returns false'. Refute it at one input. -/
def tileRecordsWrong : ChangeSpec := { name := "tileRecords", fn := fun _ => fun
  | [d1, d2, d3] => { results := [.lit (.bool false)], args := [d1, d2, d3] }
  | _ => none }
def TileRecordsWrongFalsely : Prop := tileRecordsRow.holds Try.pinned (OpenSpec.ofChange tileRecordsWrong)

/-- 'ledgerlaw10.TileJoins': WHATEVER THE INPUT: true; the input reads as it did. -/
def tileJoinsSpec : ChangeSpec := { name := "tileJoins", fn := fun _ => fun
  | [d1, d2, d3] => { results := [.lit (.bool true)], args := [d1, d2, d3] }
  | _ => none }
def tileJoinsRow : OpenClaim := { program := "ytccjncflbbhldaa", sum := "ce7c621b3c8eb6a42ff76b8c2a7d7525dea7c4aaa3101a8aee2bc79716a0bf4a", func := "ledger/ledgerlaw10.TileJoins", spec := "tileJoins", plainKeys := false, apart := false }
def TileJoinsSaid : Prop := tileJoinsRow.holds Try.pinned (OpenSpec.ofChange tileJoinsSpec)

/-- ITS FALSE NEIGHBOUR: 'it returns false'. Refute it at one input. -/
def tileJoinsWrong : ChangeSpec := { name := "tileJoins", fn := fun _ => fun
  | [d1, d2, d3] => { results := [.lit (.bool false)], args := [d1, d2, d3] }
  | _ => none }
def TileJoinsWrongFalsely : Prop := tileJoinsRow.holds Try.pinned (OpenSpec.ofChange tileJoinsWrong)

/-- 'ledgerlaw10.TileCovers': WHATEVER THE INPUT: true; the input reads as it did. -/
def tileCoversSpec : ChangeSpec := { name := "tileCovers", fn := fun _ => fun
  | [d1, d2, d3] => { results := [.lit (.bool true)], args := [d1, d2, d3] }
  | _ => none }
def tileCoversRow : OpenClaim := { program := "ytccjncflbbhldaa", sum := "ce7c621b3c8eb6a42ff76b8c2a7d7525dea7c4aaa3101a8aee2bc79716a0bf4a", func := "ledger/ledgerlaw10.TileCovers", spec := "tileCovers", plainKeys := false, apart := false }
def TileCoversSaid : Prop := tileCoversRow.holds Try.pinned (OpenSpec.ofChange tileCoversSpec)

/-- ITS FALSE NEIGHBOUR: 'it returns false'. Refute it at one input. -/
def tileCoversWrong : ChangeSpec := { name := "tileCovers", fn := fun _ => fun
  | [d1, d2, d3] => { results := [.lit (.bool false)], args := [d1, d2, d3] }
  | _ => none }
def TileCoversWrongFalsely : Prop := tileCoversRow.holds Try.pinned (OpenSpec.ofChange tileCoversWrong)

/-- 'ledgerlaw10.TileNumbers': WHATEVER THE INPUT: true; the input reads as it did. -/
def tileNumbersSpec : ChangeSpec := { name := "tileNumbers", fn := fun _ => fun
  | [d] => { results := [.lit (.bool true)], args := [d] }
  | _ => none }
def tileNumbersRow : OpenClaim := { program := "ytccjncflbbhldaa", sum := "ce7c621b3c8eb6a42ff76b8c2a7d7525dea7c4aaa3101a8aee2bc79716a0bf4a", func := "ledger/ledgerlaw10.TileNumbers", spec := "tileNumbers", unfollowed := true, recurses := true, plainKeys := false, apart := false }
def TileNumbersSaid : Prop := tileNumbersRow.holds Try.pinned (OpenSpec.ofChange tileNumbersSpec)

/-- ITS FALSE NEIGHBOUR: 'it returns false'. Refute it at one input. -/
def tileNumbersWrong : ChangeSpec := { name := "tileNumbers", fn := fun _ => fun
  | [d] => { results := [.lit (.bool false)], args := [d] }
  | _ => none }
def TileNumbersWrongFalsely : Prop := tileNumbersRow.holds Try.pinned (OpenSpec.ofChange tileNumbersWrong)

/- THE SECOND FORM. 'bulk': how many values and letters a reading holds, each counted each time it is reached (what is shared counts as often as it is met; a slice's spare places count too). A statement '..UptoSaid' is the law's where the arguments, and the package variables that the reading takes, are together of bulk at most 1048576: NARROWER than '..Said'. Prove '..Said' where nothing that the law and all that it calls make is longer than what came in: it says more and counts as full. Else prove '..UptoSaid'. A law counts once. -/
mutual
def uptoBulk {H : Type} : DataW H → Nat
  | .lit (.string bytes) => bytes.length + 1
  | .lit _ => 1
  | .nil => 1
  | .ptr d => uptoBulk d + 1
  | .slice elems spare => uptoBulkAll elems + uptoBulkAll spare + 1
  | .agg parts => uptoBulkAll parts + 1
  | .iface _ d => uptoBulk d + 1
  | .map entries => uptoBulkEntries entries + 1
  | .held _ => 1
def uptoBulkAll {H : Type} : List (DataW H) → Nat
  | [] => 0
  | d :: r => uptoBulk d + uptoBulkAll r
def uptoBulkEntries {H : Type} : List (Lit × DataW H) → Nat
  | [] => 0
  | x :: r => uptoBulkEntry x + uptoBulkEntries r
def uptoBulkEntry {H : Type} : Lit × DataW H → Nat
  | (.string bytes, d) => bytes.length + uptoBulk d + 1
  | (_, d) => uptoBulk d + 1
 end
def uptoSmall : (H : Type) → List (DataW H) → Bool := fun _ ds => decide (uptoBulkAll ds ≤ 1048576)
def OpenSpec.upto (s : _root_.Go.ChangeSpec) : _root_.Go.OpenSpec := { _root_.Go.OpenSpec.ofChange s with cond := some uptoSmall }

/-- 'ledgerlaw10.TileRecords', WHERE WHAT IT READS IS OF BULK AT MOST 1048576: true; the input reads as it did. -/
def tileRecordsUptoRow : OpenClaim := { program := "ytccjncflbbhldaa", sum := "ce7c621b3c8eb6a42ff76b8c2a7d7525dea7c4aaa3101a8aee2bc79716a0bf4a", func := "ledger/ledgerlaw10.TileRecords", spec := "tileRecords", plainKeys := false, apart := false, narrowed := true }
def TileRecordsUptoSaid : Prop := tileRecordsUptoRow.holds Try.pinned (OpenSpec.upto tileRecordsSpec)

/-- 'ledgerlaw10.TileJoins', WHERE WHAT IT READS IS OF BULK AT MOST 1048576: true; the input reads as it did. -/
def tileJoinsUptoRow : OpenClaim := { program := "ytccjncflbbhldaa", sum := "ce7c621b3c8eb6a42ff76b8c2a7d7525dea7c4aaa3101a8aee2bc79716a0bf4a", func := "ledger/ledgerlaw10.TileJoins", spec := "tileJoins", plainKeys := false, apart := false, narrowed := true }
def TileJoinsUptoSaid : Prop := tileJoinsUptoRow.holds Try.pinned (OpenSpec.upto tileJoinsSpec)

/-- 'ledgerlaw10.TileCovers', WHERE WHAT IT READS IS OF BULK AT MOST 1048576: true; the input reads as it did. -/
def tileCoversUptoRow : OpenClaim := { program := "ytccjncflbbhldaa", sum := "ce7c621b3c8eb6a42ff76b8c2a7d7525dea7c4aaa3101a8aee2bc79716a0bf4a", func := "ledger/ledgerlaw10.TileCovers", spec := "tileCovers", plainKeys := false, apart := false, narrowed := true }
def TileCoversUptoSaid : Prop := tileCoversUptoRow.holds Try.pinned (OpenSpec.upto tileCoversSpec)

/-- 'ledgerlaw10.TileNumbers', WHERE WHAT IT READS IS OF BULK AT MOST 1048576: true; the input reads as it did. -/
def tileNumbersUptoRow : OpenClaim := { program := "ytccjncflbbhldaa", sum := "ce7c621b3c8eb6a42ff76b8c2a7d7525dea7c4aaa3101a8aee2bc79716a0bf4a", func := "ledger/ledgerlaw10.TileNumbers", spec := "tileNumbers", unfollowed := true, recurses := true, plainKeys := false, apart := false, narrowed := true }
def TileNumbersUptoSaid : Prop := tileNumbersUptoRow.holds Try.pinned (OpenSpec.upto tileNumbersSpec)

end Rows
end Go.Proofs.Ytccjncflbbhldaa
