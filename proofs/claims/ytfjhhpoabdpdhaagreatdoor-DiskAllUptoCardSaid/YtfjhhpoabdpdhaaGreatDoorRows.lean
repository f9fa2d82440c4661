/-
  NARROWER THAN 'FOR EVERY INPUT', by the rows' own cells (each row's printed sentence says how): DiskSwap: laid · DiskLasts: laid · DiskFails: laid · DiskAll: laid · DiskDead: laid · DiskWorlds: laid.
  DERIVED. THE GIVEN ROWS OF THIS SEAT. 6 by the template 'for every input the law returns true; each argument reads behind the call as it read before'; 0 by the template 'total and deterministic' (their statements: YtfjhhpoabdpdhaaGreatDoorTotals.lean).
  GIVEN WITH THE SEED: the statements are not yours to turn. If you find one false, say at which input.
  Laid BY PROGRAM, IN A SANDBOX (cutbox-rows.mjs): the forced cells as the released guide's own fill.sh prints them over the translation 6c7f9b92b1cd8cc0… (all of the seat's roots in one cut). By AI agents, Wed Nov 11 2026. No macro, syntax, notation, axiom, sorry.
-/
import Derived.Test.YtfjhhpoabdpdhaaGreatDoorChecked
import GoSem.PinnedTables
import GoSem.Claim
import GoSem.ClaimJoined
import GoSem.ClaimMapViews
import Derived.JoinedTies
import Derived.KernelRfl
namespace Go.Proofs.YtfjhhpoabdpdhaaGreatDoor
/- THE CELL 'sum', in the pinned program and in every row, IS THE sha256 OF THE DUMP (.gsa) THAT YtfjhhpoabdpdhaaGreatDoorProg.lean LOADS. Nothing in Lean hashes anything: it is a label: what it is worth is what the hold of that sum in a sandbox is worth. -/
noncomputable def Tryz.pinned : Pinned := { name := "ytfjhhpoabdpdhaagreatdoor", sum := "6c7f9b92b1cd8cc0f1c7b680c21d0dbb355516fe0ed69d0379f18a55dc2ad66b", checked := Tryz.checked }
namespace Rows
def none {H : Type} : Left H := { results := [], args := [] }

/- WHAT THE LISTED PACKAGE-LEVEL VARIABLES READ AS WHEN THE CALL BEGINS. Each datum BY PROGRAM (the guide's laid-datum.mjs) off the statement by which the dump's own 'gosem.cut.vars' lays the variable. In a bare row this is a premise. The card (YtfjhhpoabdpdhaaGreatDoorCards.lean) ties it to the program's text. -/
def laid_unicode_utf8_acceptRanges {H : Type} : DataW H := .agg [.agg [.lit (.int .u8 128), .lit (.int .u8 191)], .agg [.lit (.int .u8 160), .lit (.int .u8 191)], .agg [.lit (.int .u8 128), .lit (.int .u8 159)], .agg [.lit (.int .u8 144), .lit (.int .u8 191)], .agg [.lit (.int .u8 128), .lit (.int .u8 143)], .agg [.lit (.int .u8 0), .lit (.int .u8 0)], .agg [.lit (.int .u8 0), .lit (.int .u8 0)], .agg [.lit (.int .u8 0), .lit (.int .u8 0)], .agg [.lit (.int .u8 0), .lit (.int .u8 0)], .agg [.lit (.int .u8 0), .lit (.int .u8 0)], .agg [.lit (.int .u8 0), .lit (.int .u8 0)], .agg [.lit (.int .u8 0), .lit (.int .u8 0)], .agg [.lit (.int .u8 0), .lit (.int .u8 0)], .agg [.lit (.int .u8 0), .lit (.int .u8 0)], .agg [.lit (.int .u8 0), .lit (.int .u8 0)], .agg [.lit (.int .u8 0), .lit (.int .u8 0)]]
/-- One of Go's own tables, pinned by name: the form's constant. -/
def laid_unicode_utf8_first : DataW Unit := Go.Pinned.utf8First

/-- 'ledgerlaw12.DiskSwap': WHATEVER THE INPUT: true; the input reads as it did. -/
def diskSwapSpec : ChangeSpec := { name := "diskSwap", fn := fun _ => fun
  | [d1, d2] => { results := [.lit (.bool true)], args := [d1, d2] }
  | _ => none }
def diskSwapRow : OpenClaim := { program := "ytfjhhpoabdpdhaagreatdoor", sum := "6c7f9b92b1cd8cc0f1c7b680c21d0dbb355516fe0ed69d0379f18a55dc2ad66b", func := "ledger/ledgerlaw12.DiskSwap", spec := "diskSwap", inPlace := ["internal/bytealg.CountString", "internal/bytealg.IndexByteString", "internal/bytealg.IndexString", "maps.clone"], unfollowed := true, recurses := true, named := ["unicode/utf8.first", "unicode/utf8.acceptRanges", "internal/bytealg.MaxLen"], apart := false, laid := [("unicode/utf8.acceptRanges", laid_unicode_utf8_acceptRanges), ("unicode/utf8.first", laid_unicode_utf8_first)] }
def DiskSwapSaid : Prop := diskSwapRow.holds Tryz.pinned (OpenSpec.ofChange diskSwapSpec)

/-- ITS FALSE NEIGHBOUR: 'it returns false'. Refute it at one input. -/
def diskSwapWrong : ChangeSpec := { name := "diskSwap", fn := fun _ => fun
  | [d1, d2] => { results := [.lit (.bool false)], args := [d1, d2] }
  | _ => none }
def DiskSwapWrongFalsely : Prop := diskSwapRow.holds Tryz.pinned (OpenSpec.ofChange diskSwapWrong)

/-- 'ledgerlaw12.DiskLasts': WHATEVER THE INPUT: true; the input reads as it did. -/
def diskLastsSpec : ChangeSpec := { name := "diskLasts", fn := fun _ => fun
  | [d1, d2] => { results := [.lit (.bool true)], args := [d1, d2] }
  | _ => none }
def diskLastsRow : OpenClaim := { program := "ytfjhhpoabdpdhaagreatdoor", sum := "6c7f9b92b1cd8cc0f1c7b680c21d0dbb355516fe0ed69d0379f18a55dc2ad66b", func := "ledger/ledgerlaw12.DiskLasts", spec := "diskLasts", inPlace := ["internal/bytealg.CountString", "internal/bytealg.IndexByteString", "internal/bytealg.IndexString", "maps.clone"], unfollowed := true, recurses := true, named := ["unicode/utf8.first", "unicode/utf8.acceptRanges", "internal/bytealg.MaxLen"], apart := false, laid := [("unicode/utf8.acceptRanges", laid_unicode_utf8_acceptRanges), ("unicode/utf8.first", laid_unicode_utf8_first)] }
def DiskLastsSaid : Prop := diskLastsRow.holds Tryz.pinned (OpenSpec.ofChange diskLastsSpec)

/-- ITS FALSE NEIGHBOUR: 'it returns false'. Refute it at one input. -/
def diskLastsWrong : ChangeSpec := { name := "diskLasts", fn := fun _ => fun
  | [d1, d2] => { results := [.lit (.bool false)], args := [d1, d2] }
  | _ => none }
def DiskLastsWrongFalsely : Prop := diskLastsRow.holds Tryz.pinned (OpenSpec.ofChange diskLastsWrong)

/-- 'ledgerlaw12.DiskFails': WHATEVER THE INPUT: true; the input reads as it did. -/
def diskFailsSpec : ChangeSpec := { name := "diskFails", fn := fun _ => fun
  | [d1, d2] => { results := [.lit (.bool true)], args := [d1, d2] }
  | _ => none }
def diskFailsRow : OpenClaim := { program := "ytfjhhpoabdpdhaagreatdoor", sum := "6c7f9b92b1cd8cc0f1c7b680c21d0dbb355516fe0ed69d0379f18a55dc2ad66b", func := "ledger/ledgerlaw12.DiskFails", spec := "diskFails", inPlace := ["internal/bytealg.CountString", "internal/bytealg.IndexByteString", "internal/bytealg.IndexString", "maps.clone"], unfollowed := true, recurses := true, named := ["unicode/utf8.first", "unicode/utf8.acceptRanges", "internal/bytealg.MaxLen"], apart := false, laid := [("unicode/utf8.acceptRanges", laid_unicode_utf8_acceptRanges), ("unicode/utf8.first", laid_unicode_utf8_first)] }
def DiskFailsSaid : Prop := diskFailsRow.holds Tryz.pinned (OpenSpec.ofChange diskFailsSpec)

/-- ITS FALSE NEIGHBOUR: 'it returns false'. Refute it at one input. -/
def diskFailsWrong : ChangeSpec := { name := "diskFails", fn := fun _ => fun
  | [d1, d2] => { results := [.lit (.bool false)], args := [d1, d2] }
  | _ => none }
def DiskFailsWrongFalsely : Prop := diskFailsRow.holds Tryz.pinned (OpenSpec.ofChange diskFailsWrong)

/-- 'ledgerlaw12.DiskAll': WHATEVER THE INPUT: true; the input reads as it did. -/
def diskAllSpec : ChangeSpec := { name := "diskAll", fn := fun _ => fun
  | [d] => { results := [.lit (.bool true)], args := [d] }
  | _ => none }
def diskAllRow : OpenClaim := { program := "ytfjhhpoabdpdhaagreatdoor", sum := "6c7f9b92b1cd8cc0f1c7b680c21d0dbb355516fe0ed69d0379f18a55dc2ad66b", func := "ledger/ledgerlaw12.DiskAll", spec := "diskAll", inPlace := ["internal/bytealg.CountString", "internal/bytealg.IndexByteString", "internal/bytealg.IndexString", "maps.clone"], unfollowed := true, recurses := true, named := ["unicode/utf8.first", "unicode/utf8.acceptRanges", "internal/bytealg.MaxLen"], apart := false, laid := [("unicode/utf8.acceptRanges", laid_unicode_utf8_acceptRanges), ("unicode/utf8.first", laid_unicode_utf8_first)] }
def DiskAllSaid : Prop := diskAllRow.holds Tryz.pinned (OpenSpec.ofChange diskAllSpec)

/-- ITS FALSE NEIGHBOUR: 'it returns false'. Refute it at one input. -/
def diskAllWrong : ChangeSpec := { name := "diskAll", fn := fun _ => fun
  | [d] => { results := [.lit (.bool false)], args := [d] }
  | _ => none }
def DiskAllWrongFalsely : Prop := diskAllRow.holds Tryz.pinned (OpenSpec.ofChange diskAllWrong)

/-- 'ledgerlaw12.DiskDead': WHATEVER THE INPUT: true; the input reads as it did. -/
def diskDeadSpec : ChangeSpec := { name := "diskDead", fn := fun _ => fun
  | [d1, d2] => { results := [.lit (.bool true)], args := [d1, d2] }
  | _ => none }
def diskDeadRow : OpenClaim := { program := "ytfjhhpoabdpdhaagreatdoor", sum := "6c7f9b92b1cd8cc0f1c7b680c21d0dbb355516fe0ed69d0379f18a55dc2ad66b", func := "ledger/ledgerlaw12.DiskDead", spec := "diskDead", inPlace := ["internal/bytealg.CountString", "internal/bytealg.IndexByteString", "internal/bytealg.IndexString", "maps.clone"], unfollowed := true, recurses := true, named := ["unicode/utf8.first", "unicode/utf8.acceptRanges", "internal/bytealg.MaxLen"], apart := false, laid := [("unicode/utf8.acceptRanges", laid_unicode_utf8_acceptRanges), ("unicode/utf8.first", laid_unicode_utf8_first)] }
def DiskDeadSaid : Prop := diskDeadRow.holds Tryz.pinned (OpenSpec.ofChange diskDeadSpec)

/-- ITS FALSE NEIGHBOUR: 'it returns false'. Refute it at one input. -/
def diskDeadWrong : ChangeSpec := { name := "diskDead", fn := fun _ => fun
  | [d1, d2] => { results := [.lit (.bool false)], args := [d1, d2] }
  | _ => none }
def DiskDeadWrongFalsely : Prop := diskDeadRow.holds Tryz.pinned (OpenSpec.ofChange diskDeadWrong)

/-- 'ledgerlaw12.DiskWorlds': WHATEVER THE INPUT: true; the input reads as it did. -/
def diskWorldsSpec : ChangeSpec := { name := "diskWorlds", fn := fun _ => fun
  | [d1, d2] => { results := [.lit (.bool true)], args := [d1, d2] }
  | _ => none }
def diskWorldsRow : OpenClaim := { program := "ytfjhhpoabdpdhaagreatdoor", sum := "6c7f9b92b1cd8cc0f1c7b680c21d0dbb355516fe0ed69d0379f18a55dc2ad66b", func := "ledger/ledgerlaw12.DiskWorlds", spec := "diskWorlds", inPlace := ["internal/bytealg.CountString", "internal/bytealg.IndexByteString", "internal/bytealg.IndexString", "maps.clone"], unfollowed := true, recurses := true, named := ["unicode/utf8.first", "unicode/utf8.acceptRanges", "internal/bytealg.MaxLen"], apart := false, laid := [("unicode/utf8.acceptRanges", laid_unicode_utf8_acceptRanges), ("unicode/utf8.first", laid_unicode_utf8_first)] }
def DiskWorldsSaid : Prop := diskWorldsRow.holds Tryz.pinned (OpenSpec.ofChange diskWorldsSpec)

/-- ITS FALSE NEIGHBOUR: 'it returns false'. Refute it at one input. -/
def diskWorldsWrong : ChangeSpec := { name := "diskWorlds", fn := fun _ => fun
  | [d1, d2] => { results := [.lit (.bool false)], args := [d1, d2] }
  | _ => none }
def DiskWorldsWrongFalsely : Prop := diskWorldsRow.holds Tryz.pinned (OpenSpec.ofChange diskWorldsWrong)

/- THE SECOND FORM. 'bulk': how many values and letters a reading holds, each counted each time it is reached (what is shared counts as often as it is met; a slice's spare places count too). A statement '..UptoSaid' is the law's where the arguments, and the package variables that the reading takes, are together of bulk at most 1048576: NARROWER than '..Said'. Prove '..Said' where nothing that the law and all that it calls make is longer than what came in: it says more and counts as full. Else prove '..UptoSaid'. A law counts once. -/
mutual
def uptoBulk {H : Type} : DataW H → Nat
  | .lit (.string bytes) => bytes.length + 1
  | .lit _ => 1
  | .nil => 1
  | .ptr d => uptoBulk d + 1
  | .slice elems spare => uptoBulkAll elems + uptoBulkAll spare + 1
  | .agg parts => uptoBulkAll parts + 1
  | .iface _ d => uptoBulk d + 1
  | .map entries => uptoBulkEntries entries + 1
  | .held _ => 1
def uptoBulkAll {H : Type} : List (DataW H) → Nat
  | [] => 0
  | d :: r => uptoBulk d + uptoBulkAll r
def uptoBulkEntries {H : Type} : List (Lit × DataW H) → Nat
  | [] => 0
  | x :: r => uptoBulkEntry x + uptoBulkEntries r
def uptoBulkEntry {H : Type} : Lit × DataW H → Nat
  | (.string bytes, d) => bytes.length + uptoBulk d + 1
  | (_, d) => uptoBulk d + 1
 end
def uptoSmall : (H : Type) → List (DataW H) → Bool := fun _ ds => decide (uptoBulkAll ds ≤ 1048576)
def OpenSpec.upto (s : _root_.Go.ChangeSpec) : _root_.Go.OpenSpec := { _root_.Go.OpenSpec.ofChange s with cond := some uptoSmall }

/-- 'ledgerlaw12.DiskSwap', WHERE WHAT IT READS IS OF BULK AT MOST 1048576: true; the input reads as it did. -/
def diskSwapUptoRow : OpenClaim := { program := "ytfjhhpoabdpdhaagreatdoor", sum := "6c7f9b92b1cd8cc0f1c7b680c21d0dbb355516fe0ed69d0379f18a55dc2ad66b", func := "ledger/ledgerlaw12.DiskSwap", spec := "diskSwap", inPlace := ["internal/bytealg.CountString", "internal/bytealg.IndexByteString", "internal/bytealg.IndexString", "maps.clone"], unfollowed := true, recurses := true, named := ["unicode/utf8.first", "unicode/utf8.acceptRanges", "internal/bytealg.MaxLen"], apart := false, laid := [("unicode/utf8.acceptRanges", laid_unicode_utf8_acceptRanges), ("unicode/utf8.first", laid_unicode_utf8_first)], narrowed := true }
def DiskSwapUptoSaid : Prop := diskSwapUptoRow.holds Tryz.pinned (OpenSpec.upto diskSwapSpec)

/-- 'ledgerlaw12.DiskLasts', WHERE WHAT IT READS IS OF BULK AT MOST 1048576: true; the input reads as it did. -/
def diskLastsUptoRow : OpenClaim := { program := "ytfjhhpoabdpdhaagreatdoor", sum := "6c7f9b92b1cd8cc0f1c7b680c21d0dbb355516fe0ed69d0379f18a55dc2ad66b", func := "ledger/ledgerlaw12.DiskLasts", spec := "diskLasts", inPlace := ["internal/bytealg.CountString", "internal/bytealg.IndexByteString", "internal/bytealg.IndexString", "maps.clone"], unfollowed := true, recurses := true, named := ["unicode/utf8.first", "unicode/utf8.acceptRanges", "internal/bytealg.MaxLen"], apart := false, laid := [("unicode/utf8.acceptRanges", laid_unicode_utf8_acceptRanges), ("unicode/utf8.first", laid_unicode_utf8_first)], narrowed := true }
def DiskLastsUptoSaid : Prop := diskLastsUptoRow.holds Tryz.pinned (OpenSpec.upto diskLastsSpec)

/-- 'ledgerlaw12.DiskFails', WHERE WHAT IT READS IS OF BULK AT MOST 1048576: true; the input reads as it did. -/
def diskFailsUptoRow : OpenClaim := { program := "ytfjhhpoabdpdhaagreatdoor", sum := "6c7f9b92b1cd8cc0f1c7b680c21d0dbb355516fe0ed69d0379f18a55dc2ad66b", func := "ledger/ledgerlaw12.DiskFails", spec := "diskFails", inPlace := ["internal/bytealg.CountString", "internal/bytealg.IndexByteString", "internal/bytealg.IndexString", "maps.clone"], unfollowed := true, recurses := true, named := ["unicode/utf8.first", "unicode/utf8.acceptRanges", "internal/bytealg.MaxLen"], apart := false, laid := [("unicode/utf8.acceptRanges", laid_unicode_utf8_acceptRanges), ("unicode/utf8.first", laid_unicode_utf8_first)], narrowed := true }
def DiskFailsUptoSaid : Prop := diskFailsUptoRow.holds Tryz.pinned (OpenSpec.upto diskFailsSpec)

/-- 'ledgerlaw12.DiskAll', WHERE WHAT IT READS IS OF BULK AT MOST 1048576: true; the input reads as it did. -/
def diskAllUptoRow : OpenClaim := { program := "ytfjhhpoabdpdhaagreatdoor", sum := "6c7f9b92b1cd8cc0f1c7b680c21d0dbb355516fe0ed69d0379f18a55dc2ad66b", func := "ledger/ledgerlaw12.DiskAll", spec := "diskAll", inPlace := ["internal/bytealg.CountString", "internal/bytealg.IndexByteString", "internal/bytealg.IndexString", "maps.clone"], unfollowed := true, recurses := true, named := ["unicode/utf8.first", "unicode/utf8.acceptRanges", "internal/bytealg.MaxLen"], apart := false, laid := [("unicode/utf8.acceptRanges", laid_unicode_utf8_acceptRanges), ("unicode/utf8.first", laid_unicode_utf8_first)], narrowed := true }
def DiskAllUptoSaid : Prop := diskAllUptoRow.holds Tryz.pinned (OpenSpec.upto diskAllSpec)

/-- 'ledgerlaw12.DiskDead', WHERE WHAT IT READS IS OF BULK AT MOST 1048576: true; the input reads as it did. -/
def diskDeadUptoRow : OpenClaim := { program := "ytfjhhpoabdpdhaagreatdoor", sum := "6c7f9b92b1cd8cc0f1c7b680c21d0dbb355516fe0ed69d0379f18a55dc2ad66b", func := "ledger/ledgerlaw12.DiskDead", spec := "diskDead", inPlace := ["internal/bytealg.CountString", "internal/bytealg.IndexByteString", "internal/bytealg.IndexString", "maps.clone"], unfollowed := true, recurses := true, named := ["unicode/utf8.first", "unicode/utf8.acceptRanges", "internal/bytealg.MaxLen"], apart := false, laid := [("unicode/utf8.acceptRanges", laid_unicode_utf8_acceptRanges), ("unicode/utf8.first", laid_unicode_utf8_first)], narrowed := true }
def DiskDeadUptoSaid : Prop := diskDeadUptoRow.holds Tryz.pinned (OpenSpec.upto diskDeadSpec)

/-- 'ledgerlaw12.DiskWorlds', WHERE WHAT IT READS IS OF BULK AT MOST 1048576: true; the input reads as it did. -/
def diskWorldsUptoRow : OpenClaim := { program := "ytfjhhpoabdpdhaagreatdoor", sum := "6c7f9b92b1cd8cc0f1c7b680c21d0dbb355516fe0ed69d0379f18a55dc2ad66b", func := "ledger/ledgerlaw12.DiskWorlds", spec := "diskWorlds", inPlace := ["internal/bytealg.CountString", "internal/bytealg.IndexByteString", "internal/bytealg.IndexString", "maps.clone"], unfollowed := true, recurses := true, named := ["unicode/utf8.first", "unicode/utf8.acceptRanges", "internal/bytealg.MaxLen"], apart := false, laid := [("unicode/utf8.acceptRanges", laid_unicode_utf8_acceptRanges), ("unicode/utf8.first", laid_unicode_utf8_first)], narrowed := true }
def DiskWorldsUptoSaid : Prop := diskWorldsUptoRow.holds Tryz.pinned (OpenSpec.upto diskWorldsSpec)

end Rows
end Go.Proofs.YtfjhhpoabdpdhaaGreatDoor
