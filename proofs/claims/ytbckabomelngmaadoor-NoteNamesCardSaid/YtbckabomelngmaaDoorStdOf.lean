/- From what the rows list to what names ask. -/
import Derived.Lib.LaidU8
import Derived.Test.YtbckabomelngmaaDoorRefName
import Derived.Test.YtbckabomelngmaaDoorRows
import Derived.Test.YtbckabomelngmaaDoorShU3
namespace Go.Proofs.YtbckabomelngmaaDoor
open Go.Sh Go.RowKit Go.Lib
set_option maxRecDepth 100000 in
theorem nst_of {laid : List (String × DataW Unit)} (hp : (laid.all fun x => x.2.handleName?.isNone) = true) (h1 : ("unicode/utf8.first", (Lib.firstData : DataW Unit)) ∈ laid) (h2 : ("unicode/utf8.acceptRanges", (Lib.acceptData : DataW Unit)) ∈ laid) (h3 : ("unicode.White_Space", (Lib.whiteData : DataW Unit)) ∈ laid) {W : World} (hL : laidMetH Tryd.prog laid W) : Nst W := by
  rw [MakeChecks.laidMetH_plain _ _ _ hp] at hL
  exact ⟨utf8Tabs_of_reads { YtbckabomelngmaaDoor.lays197 with } ⟨by kernel_rfl, by kernel_rfl, by kernel_rfl, by kernel_rfl, by kernel_rfl, by kernel_rfl, by kernel_rfl⟩ (Lib.laidMet.reads hL h1) (Lib.laidMet.reads hL h2),
    whiteTab_of_reads YtbckabomelngmaaDoor.lays199 ⟨by kernel_rfl, by kernel_rfl, by kernel_rfl, by kernel_rfl, by kernel_rfl, by kernel_rfl, by kernel_rfl, by kernel_rfl⟩ (Lib.laidMet.reads hL h3)⟩
theorem blanks_data : Rows.laid_ledger_ledgerref07_blanks (H := Unit) = .agg (blanks.map fun l => .lit (.string l)) := rfl
theorem blanks_of {laid : List (String × DataW Unit)} (hp : (laid.all fun x => x.2.handleName?.isNone) = true) (i : Nat) (h1 : laid[i]? = some ("ledger/ledgerref07.blanks", Rows.laid_ledger_ledgerref07_blanks)) {W : World} (hL : laidMetH Tryd.prog laid W) : Blanks W := by
  rw [blanks_data] at h1
  exact laid_strs hL hp i h1 (g := 0) (t := 74) (by kernel_rfl) (by kernel_rfl) Tryd.underlying74 Tryd.underlying9 (by kernel_rfl)
end Go.Proofs.YtbckabomelngmaaDoor
