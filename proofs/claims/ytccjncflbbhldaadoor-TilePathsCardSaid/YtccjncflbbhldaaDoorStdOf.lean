/- From what the row lists to what the library reads. -/
import Derived.Test.YtccjncflbbhldaaDoorWords
import Derived.Test.YtccjncflbbhldaaDoorRows
import Derived.Test.YtccjncflbbhldaaDoorShL13
namespace Go.Proofs.YtccjncflbbhldaaDoor
open Go.Sh Go.RowKit Go.ChangeShapes Go.WideShapes
/-- the list that TileOnce and TilePaths have -/
def laidS : List (String × DataW Unit) := [("math/bits.deBruijn32tab", Rows.laid_math_bits_deBruijn32tab), ("math/bits.deBruijn64tab", Rows.laid_math_bits_deBruijn64tab), ("internal/strconv.uint64pow10", Rows.laid_internal_strconv_uint64pow10), ("unicode/utf8.acceptRanges", Rows.laid_unicode_utf8_acceptRanges), ("strconv.ErrRange", Rows.laid_strconv_ErrRange), ("strconv.ErrSyntax", Rows.laid_strconv_ErrSyntax), ("unicode/utf8.first", Rows.laid_unicode_utf8_first)]
theorem laidS_plain : (laidS.all fun x => x.2.handleName?.isNone) = true := by kernel_rfl
theorem pow_data : laidS[2]? = some ("internal/strconv.uint64pow10", Lib.tabData .u64 Lib.pow10Tab) := by kernel_rfl
set_option maxRecDepth 100000 in
theorem std_of {W : World} (hL : laidMetH Tryd.prog laidS W) (hs : W.ShapedOpen Tryd.prog) : Std W := by
  refine ⟨?_, ?_, ?_, ?_⟩
  · exact laid_tab hL laidS_plain 2 pow_data (g := 0) (t := 205) (by kernel_rfl) (by kernel_rfl) Tryd.underlying205 Tryd.underlying169 (by kernel_rfl) (by kernel_rfl)
  · obtain ⟨u, v, h⟩ := laid_iface hL laidS_plain 5 rfl (g := 1) (t := 117) (by kernel_rfl) (by kernel_rfl) Tryd.underlying117
    exact ⟨_, h, .inr ⟨_, _, rfl⟩⟩
  · obtain ⟨u, v, h⟩ := laid_iface hL laidS_plain 4 rfl (g := 2) (t := 117) (by kernel_rfl) (by kernel_rfl) Tryd.underlying117
    exact ⟨_, h, .inr ⟨_, _, rfl⟩⟩
  · exact cell_of_shapedOpen_int (zero := #[.int .i64 0]) (t := 3) hs (of_decide_eq_true (by kernel_rfl)) (by kernel_rfl) rfl (by kernel_rfl) (by kernel_rfl) Tryd.underlying3
end Go.Proofs.YtccjncflbbhldaaDoor
