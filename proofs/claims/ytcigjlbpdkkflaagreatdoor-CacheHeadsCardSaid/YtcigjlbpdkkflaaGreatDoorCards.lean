/-
  DERIVED. GIVEN WITH THE SEED: THE CARDS: each row of YtcigjlbpdkkflaaGreatDoorRows.lean that lists a variable, with what it lists TIED to the program's text (the seventh form; the later family's looks); each row that meets fmt, with fmt's text TOLD by the authors' own Lean function (tested against real Go, not proved from fmt's source: count such statements apart). THE CARD IS WHAT COUNTS. Prove the row's statement (the work); the ties are given (YtcigjlbpdkkflaaGreatDoorTie.lean); close each card by the builder's one call (the guide's Derived/Test/ToyasCard.lean, 'card_holds'). Laid BY PROGRAM, IN A SANDBOX (cutbox-door.mjs). By AI agents, Wed Nov 11 2026. No macro, syntax, notation, axiom, sorry.
-/
import Derived.Test.YtcigjlbpdkkflaaGreatDoorRows
import GoSem.ClaimSeven
namespace Go.Proofs.YtcigjlbpdkkflaaGreatDoor
namespace Rows

/-- THE TIED CARD OF 'ledgerlaw16.CacheCleans'. -/
def cacheCleansCard : Claim7 := { stood := { row := cacheCleansRow, standIns := [], harness := (true, "ca15cacc0563a1ee2497884046cc2d39c532317fde38cd175d885fa3a07b140a"), looks := true }, kinds := [], alts := [], laidByText := true, laidKinds := [.data, .data, .data, .data, .sentinel, .sentinel, .pinned], laidTests := true, laidLooks := .later }
def CacheCleansCardSaid : Prop := Claim7.holds Tryz.pinned (.plain (OpenSpec.ofChange cacheCleansSpec)) cacheCleansCard

/-- THE TIED CARD OF 'ledgerlaw16.CacheRoom'. -/
def cacheRoomCard : Claim7 := { stood := { row := cacheRoomRow, standIns := [], harness := (true, "ca15cacc0563a1ee2497884046cc2d39c532317fde38cd175d885fa3a07b140a"), looks := true }, kinds := [], alts := [], laidByText := true, laidKinds := [.data, .data, .data, .data, .sentinel, .sentinel, .pinned], laidTests := true, laidLooks := .later }
def CacheRoomCardSaid : Prop := Claim7.holds Tryz.pinned (.plain (OpenSpec.ofChange cacheRoomSpec)) cacheRoomCard

/-- THE TIED CARD OF 'ledgerlaw16.CacheApart'. -/
def cacheApartCard : Claim7 := { stood := { row := cacheApartRow, standIns := [], harness := (true, "ca15cacc0563a1ee2497884046cc2d39c532317fde38cd175d885fa3a07b140a"), looks := true }, kinds := [], alts := [], laidByText := true, laidKinds := [.data, .data, .data, .data, .sentinel, .sentinel, .pinned], laidTests := true, laidLooks := .later }
def CacheApartCardSaid : Prop := Claim7.holds Tryz.pinned (.plain (OpenSpec.ofChange cacheApartSpec)) cacheApartCard

/-- THE TIED CARD OF 'ledgerlaw16.CacheHeads'. -/
def cacheHeadsCard : Claim7 := { stood := { row := cacheHeadsRow, standIns := [], harness := (true, "ca15cacc0563a1ee2497884046cc2d39c532317fde38cd175d885fa3a07b140a"), looks := true }, kinds := [], alts := [], laidByText := true, laidKinds := [.data, .data, .data, .data, .sentinel, .sentinel, .pinned], laidTests := true, laidLooks := .later }
def CacheHeadsCardSaid : Prop := Claim7.holds Tryz.pinned (.plain (OpenSpec.ofChange cacheHeadsSpec)) cacheHeadsCard

/-- THE TIED CARD OF 'ledgerlaw16.CacheKeeps'. -/
def cacheKeepsCard : Claim7 := { stood := { row := cacheKeepsRow, standIns := [], harness := (true, "ca15cacc0563a1ee2497884046cc2d39c532317fde38cd175d885fa3a07b140a"), looks := true }, kinds := [], alts := [], laidByText := true, laidKinds := [.data, .data, .data, .data, .sentinel, .sentinel, .pinned], laidTests := true, laidLooks := .later }
def CacheKeepsCardSaid : Prop := Claim7.holds Tryz.pinned (.plain (OpenSpec.ofChange cacheKeepsSpec)) cacheKeepsCard

/-- THE TIED CARD OF 'ledgerlaw16.CacheAll'. -/
def cacheAllCard : Claim7 := { stood := { row := cacheAllRow, standIns := [], harness := (true, "ca15cacc0563a1ee2497884046cc2d39c532317fde38cd175d885fa3a07b140a"), looks := true }, kinds := [], alts := [], laidByText := true, laidKinds := [.data, .data, .data, .data, .sentinel, .sentinel, .pinned], laidTests := true, laidLooks := .later }
def CacheAllCardSaid : Prop := Claim7.holds Tryz.pinned (.plain (OpenSpec.ofChange cacheAllSpec)) cacheAllCard

/-- THE SECOND FORM's CARD OF 'ledgerlaw16.CacheCleans'. -/
def cacheCleansUptoCard : Claim7 := { stood := { row := cacheCleansUptoRow, standIns := [], harness := (true, "ca15cacc0563a1ee2497884046cc2d39c532317fde38cd175d885fa3a07b140a"), looks := true }, kinds := [], alts := [], laidByText := true, laidKinds := [.data, .data, .data, .data, .sentinel, .sentinel, .pinned], laidTests := true, laidLooks := .later }
def CacheCleansUptoCardSaid : Prop := Claim7.holds Tryz.pinned (.plain (OpenSpec.upto cacheCleansSpec)) cacheCleansUptoCard

/-- THE SECOND FORM's CARD OF 'ledgerlaw16.CacheRoom'. -/
def cacheRoomUptoCard : Claim7 := { stood := { row := cacheRoomUptoRow, standIns := [], harness := (true, "ca15cacc0563a1ee2497884046cc2d39c532317fde38cd175d885fa3a07b140a"), looks := true }, kinds := [], alts := [], laidByText := true, laidKinds := [.data, .data, .data, .data, .sentinel, .sentinel, .pinned], laidTests := true, laidLooks := .later }
def CacheRoomUptoCardSaid : Prop := Claim7.holds Tryz.pinned (.plain (OpenSpec.upto cacheRoomSpec)) cacheRoomUptoCard

/-- THE SECOND FORM's CARD OF 'ledgerlaw16.CacheApart'. -/
def cacheApartUptoCard : Claim7 := { stood := { row := cacheApartUptoRow, standIns := [], harness := (true, "ca15cacc0563a1ee2497884046cc2d39c532317fde38cd175d885fa3a07b140a"), looks := true }, kinds := [], alts := [], laidByText := true, laidKinds := [.data, .data, .data, .data, .sentinel, .sentinel, .pinned], laidTests := true, laidLooks := .later }
def CacheApartUptoCardSaid : Prop := Claim7.holds Tryz.pinned (.plain (OpenSpec.upto cacheApartSpec)) cacheApartUptoCard

/-- THE SECOND FORM's CARD OF 'ledgerlaw16.CacheHeads'. -/
def cacheHeadsUptoCard : Claim7 := { stood := { row := cacheHeadsUptoRow, standIns := [], harness := (true, "ca15cacc0563a1ee2497884046cc2d39c532317fde38cd175d885fa3a07b140a"), looks := true }, kinds := [], alts := [], laidByText := true, laidKinds := [.data, .data, .data, .data, .sentinel, .sentinel, .pinned], laidTests := true, laidLooks := .later }
def CacheHeadsUptoCardSaid : Prop := Claim7.holds Tryz.pinned (.plain (OpenSpec.upto cacheHeadsSpec)) cacheHeadsUptoCard

/-- THE SECOND FORM's CARD OF 'ledgerlaw16.CacheKeeps'. -/
def cacheKeepsUptoCard : Claim7 := { stood := { row := cacheKeepsUptoRow, standIns := [], harness := (true, "ca15cacc0563a1ee2497884046cc2d39c532317fde38cd175d885fa3a07b140a"), looks := true }, kinds := [], alts := [], laidByText := true, laidKinds := [.data, .data, .data, .data, .sentinel, .sentinel, .pinned], laidTests := true, laidLooks := .later }
def CacheKeepsUptoCardSaid : Prop := Claim7.holds Tryz.pinned (.plain (OpenSpec.upto cacheKeepsSpec)) cacheKeepsUptoCard

/-- THE SECOND FORM's CARD OF 'ledgerlaw16.CacheAll'. -/
def cacheAllUptoCard : Claim7 := { stood := { row := cacheAllUptoRow, standIns := [], harness := (true, "ca15cacc0563a1ee2497884046cc2d39c532317fde38cd175d885fa3a07b140a"), looks := true }, kinds := [], alts := [], laidByText := true, laidKinds := [.data, .data, .data, .data, .sentinel, .sentinel, .pinned], laidTests := true, laidLooks := .later }
def CacheAllUptoCardSaid : Prop := Claim7.holds Tryz.pinned (.plain (OpenSpec.upto cacheAllSpec)) cacheAllUptoCard
end Rows
end Go.Proofs.YtcigjlbpdkkflaaGreatDoor
