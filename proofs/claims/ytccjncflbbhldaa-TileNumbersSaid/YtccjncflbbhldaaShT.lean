/- The seat's types and words (printed by wip/gen/drive.py). -/
import Derived.Test.YtccjncflbbhldaaShD1
import Derived.Test.YtccjncflbbhldaaProg
import Derived.KernelRfl
set_option maxRecDepth 100000
namespace Go.Proofs.Ytccjncflbbhldaa
open Go.Sh
noncomputable abbrev PP := Try.prog
def tab : List TE := [
  .tupl [],
  .one .val,
  .one (.int .i64),
  .one (.int .i64),
  .one .bool,
  .one (.int .u8),
  .one (.int .u8),
  .strct 4 [.int .i64, .int .i64, .bool, .int .u8] [(0, 2), (1, 3), (2, 4), (3, 6)],
  .strct 4 [.int .i64, .int .i64, .bool, .int .u8] [(0, 2), (1, 3), (2, 4), (3, 6)],
  .one .str,
  .one .str,
  .one .str,
  .one (.int .u64),
  .strct 2 [.str, .int .u64] [(0, 9), (1, 12)],
  .strct 2 [.str, .int .u64] [(0, 9), (1, 12)],
  .one .ptr,
  .one .ptr,
  .one .ptr,
  .strct 1 [.ptr] [(0, 17)],
  .strct 1 [.ptr] [(0, 17)],
  .one .val,
  .one (.int .i32),
  .sl 23 1,
  .sl 5 1,
  .one .val,
  .one (.int .i64),
  .tupl [23, 25],
  .one .val,
  .tupl [23, 3],
  .one .val,
  .one .val,
  .one .val,
  .one .val,
  .one .val,
  .tupl [22, 25],
  .one .val,
  .tupl [22, 3],
  .one .val,
  .one .val,
  .sl 22 1,
  .one .val,
  .one .val,
  .sl 49 5,
  .tupl [42, 25],
  .one .val,
  .one .val,
  .one .val,
  .one (.int .u64),
  .strct 5 [.int .i64, .int .i64, .int .i64, .int .i64, .bool] [(0, 3), (1, 3), (2, 2), (3, 3), (4, 4)],
  .strct 5 [.int .i64, .int .i64, .int .i64, .int .i64, .bool] [(0, 3), (1, 3), (2, 2), (3, 3), (4, 4)],
  .one .val,
  .sl 2 1,
  .strct 7 [.int .i64, .int .i64, .int .i64, .int .i64, .int .i64, .int .i64, .slice] [(0, 3), (1, 3), (2, 2), (3, 2), (4, 2), (5, 2), (6, 51)],
  .strct 7 [.int .i64, .int .i64, .int .i64, .int .i64, .int .i64, .int .i64, .slice] [(0, 3), (1, 3), (2, 2), (3, 2), (4, 2), (5, 2), (6, 51)],
  .tupl [49, 25],
  .one .val,
  .strct 5 [.int .i64, .int .i64, .int .i64, .int .i64, .bool] [(0, 3), (1, 3), (2, 2), (3, 3), (4, 4)],
  .tupl [56, 3],
  .one .val,
  .one .val,
  .tupl [3, 25],
  .one .val,
  .tupl [3, 3],
  .one .val,
  .sl 56 5,
  .tupl [64, 3],
  .one .val,
  .one .val,
  .one .val,
  .one .val,
  .one .val,
  .sl 42 1,
  .one .val,
  .one .val,
  .one .val,
  .one .val,
  .tupl [2, 2],
  .one .val,
  .one .val,
  .strct 7 [.int .i64, .int .i64, .int .i64, .int .i64, .bool, .int .i64, .int .i64] [(0, 49), (5, 3), (6, 3)],
  .strct 7 [.int .i64, .int .i64, .int .i64, .int .i64, .bool, .int .i64, .int .i64] [(0, 49), (5, 3), (6, 3)],
  .tupl [80, 4],
  .one .val,
  .tupl [3, 3, 3],
  .one .val,
  .one .val,
  .one .val,
  .tupl [2, 25],
  .one .val,
  .one .map,
  .tupl [51, 25],
  .one .val,
  .sl 51 1,
  .one .val,
  .one .val,
  .one .val,
  .one .val,
  .one .val,
  .one .val,
  .sl 3 1,
  .tupl [99, 3],
  .one .val,
  .one .val,
  .one .val,
  .one .val,
  .one .val,
  .tupl [3, 2, 25],
  .one .val,
  .one .val,
  .one .val,
  .one .val,
  .one .val,
  .one .val,
  .one .val,
  .one .val,
  .one .val,
  .one .val,
  .one .val,
  .sl 4 1,
  .one .val,
  .one (.int .u64),
  .one .val,
  .one .val,
  .one .val,
  .one (.int .i64),
  .tupl [3, 124],
  .one .val,
  .one .val,
  .one .val,
  .tupl [3, 4],
  .one .val,
  .one .val,
  .one (.int .u32),
  .one (.int .u64),
  .one .val,
  .one .val,
  .one .val,
  .one .ptr,
  .one .val,
  .one .ptr,
  .one .val,
  .one .val,
  .strct 4 [.ptr, .ptr, .ptr, .str] [(0, 17), (1, 17), (2, 17), (3, 9)],
  .strct 4 [.ptr, .ptr, .ptr, .str] [(0, 17), (1, 17), (2, 17), (3, 9)],
  .arr 0 16 1,
  .none,
  .none,
  .one .val,
  .one (.int .u8),
  .one (.int .u8),
  .one .val,
  .one .ptr,
  .one (.int .i32),
  .one (.int .i32),
  .strct 11 [.int .u64, .int .u64, .int .u32, .int .u8, .int .u8, .int .u8, .int .u8, .val, .ptr, .int .i32, .int .i32] [(0, 12), (1, 12), (2, 132), (3, 148), (4, 5), (5, 5), (6, 149), (7, 150), (8, 151), (9, 152), (10, 153)],
  .strct 11 [.int .u64, .int .u64, .int .u32, .int .u8, .int .u8, .int .u8, .int .u8, .val, .ptr, .int .i32, .int .i32] [(0, 12), (1, 12), (2, 132), (3, 148), (4, 5), (5, 5), (6, 149), (7, 150), (8, 151), (9, 152), (10, 153)],
  .one .val]
theorem tab_ok : tabOk PP tab = true := by kernel_rfl
theorem mix_ok : PP.follows .mixedOrders = true := by kernel_rfl
noncomputable def C_main_main : PT := doesC PP 0
noncomputable def C_gosem_cut : PT := doesC PP 1
noncomputable def C_gosem_cut_init : PT := doesC PP 2
noncomputable def C_l10_TileRecords : PT := doesC PP 3
noncomputable def C_l10_TileJoins : PT := doesC PP 4
noncomputable def C_l10_TileCovers : PT := doesC PP 5
noncomputable def C_l10_TileNumbers : PT := doesC PP 6
noncomputable def C_l10_lent : PT := doesC PP 7
noncomputable def C_tile_Join : PT := doesC PP 8
noncomputable def C_r10_Join : PT := doesC PP 9
noncomputable def C_l10_num : PT := doesC PP 10
noncomputable def C_l10_owned : PT := doesC PP 11
noncomputable def C_l10_marked : PT := doesC PP 12
noncomputable def C_l10_untouched : PT := doesC PP 13
noncomputable def C_tile_Cut : PT := doesC PP 14
noncomputable def C_r10_Cut : PT := doesC PP 15
noncomputable def C_l10_lists : PT := doesC PP 16
noncomputable def C_l10_whole : PT := doesC PP 17
noncomputable def C_l10_within : PT := doesC PP 18
noncomputable def C_tile_All : PT := doesC PP 19
noncomputable def C_tile_Fresh : PT := doesC PP 20
noncomputable def C_l10_covered : PT := doesC PP 21
noncomputable def C_tile_Of : PT := doesC PP 22
noncomputable def C_r10_Of : PT := doesC PP 23
noncomputable def C_l10_doc : PT := doesC PP 24
noncomputable def C_tile_Width : PT := doesC PP 25
noncomputable def C_r10_Width : PT := doesC PP 26
noncomputable def C_r10_All : PT := doesC PP 27
noncomputable def C_l10_alike : PT := doesC PP 28
noncomputable def C_r10_Fresh : PT := doesC PP 29
noncomputable def C_tile_Plan : PT := doesC PP 30
noncomputable def C_r10_Plan : PT := doesC PP 31
noncomputable def C_l10_over : PT := doesC PP 32
noncomputable def C_l10_stay : PT := doesC PP 33
noncomputable def C_tile_sizes : PT := doesC PP 34
noncomputable def C_tile_span : PT := doesC PP 35
noncomputable def C_tile_widthOf : PT := doesC PP 36
noncomputable def C_tile_seatOf : PT := doesC PP 37
noncomputable def C_r08_SplitIndex : PT := doesC PP 38
noncomputable def C_r10_power : PT := doesC PP 39
noncomputable def C_r10_nodes : PT := doesC PP 40
noncomputable def C_tlog_Count : PT := doesC PP 41
noncomputable def C_tlog_Peaks : PT := doesC PP 42
noncomputable def C_tile_need : PT := doesC PP 43
noncomputable def C_slices_SortFunc_tile_Tile_tile_Tile : PT := doesC PP 44
noncomputable def C_tile_Plan_S1 : PT := doesC PP 45
noncomputable def C_cmp_Or_int : PT := doesC PP 46
noncomputable def C_cmp_Compare_int : PT := doesC PP 47
noncomputable def C_cmp_Compare_int64 : PT := doesC PP 48
noncomputable def C_r08_Count : PT := doesC PP 49
noncomputable def C_r08_Peaks : PT := doesC PP 50
noncomputable def C_r10_wide : PT := doesC PP 51
noncomputable def C_r10_within : PT := doesC PP 52
noncomputable def C_r10_top : PT := doesC PP 53
noncomputable def C_r10_sorted : PT := doesC PP 54
noncomputable def C_tile_full : PT := doesC PP 55
noncomputable def C_tlog_SplitIndex : PT := doesC PP 56
noncomputable def C_r08_record : PT := doesC PP 57
noncomputable def C_r08_laid : PT := doesC PP 58
noncomputable def C_r08_power : PT := doesC PP 59
noncomputable def C_tlog_count : PT := doesC PP 60
noncomputable def C_tlog_peaks : PT := doesC PP 61
noncomputable def C_tile_wide : PT := doesC PP 62
noncomputable def C_tile_topOf : PT := doesC PP 63
noncomputable def C_slices_pdqsortCmpFunc_tile_Tile : PT := doesC PP 64
noncomputable def C_math_bits_Len : PT := doesC PP 65
noncomputable def C_cmp_isNaN_int : PT := doesC PP 66
noncomputable def C_cmp_isNaN_int64 : PT := doesC PP 67
noncomputable def C_r08_Index : PT := doesC PP 68
noncomputable def C_tlog_filled : PT := doesC PP 69
noncomputable def C_math_bits_OnesCount64 : PT := doesC PP 70
noncomputable def C_tlog_place : PT := doesC PP 71
noncomputable def C_tlog_Index : PT := doesC PP 72
noncomputable def C_slices_insertionSortCmpFunc_tile_Tile : PT := doesC PP 73
noncomputable def C_slices_heapSortCmpFunc_tile_Tile : PT := doesC PP 74
noncomputable def C_slices_breakPatternsCmpFunc_tile_Tile : PT := doesC PP 75
noncomputable def C_slices_choosePivotCmpFunc_tile_Tile : PT := doesC PP 76
noncomputable def C_slices_reverseRangeCmpFunc_tile_Tile : PT := doesC PP 77
noncomputable def C_slices_partialInsertionSortCmpFunc_tile_Tile : PT := doesC PP 78
noncomputable def C_slices_partitionEqualCmpFunc_tile_Tile : PT := doesC PP 79
noncomputable def C_slices_partitionCmpFunc_tile_Tile : PT := doesC PP 80
noncomputable def C_math_bits_Len32 : PT := doesC PP 81
noncomputable def C_math_bits_Len64 : PT := doesC PP 82
noncomputable def C_slices_siftDownCmpFunc_tile_Tile : PT := doesC PP 83
noncomputable def C_slices_nextPowerOfTwo : PT := doesC PP 84
noncomputable def C_p_slices_xorshift_Next : PT := doesC PP 85
noncomputable def C_slices_medianAdjacentCmpFunc_tile_Tile : PT := doesC PP 86
noncomputable def C_slices_medianCmpFunc_tile_Tile : PT := doesC PP 87
noncomputable def C_slices_order2CmpFunc_tile_Tile : PT := doesC PP 88
noncomputable def C_runtime_boundsError_Error : PT := doesC PP 89
noncomputable def C_runtime_boundsError_RuntimeError : PT := doesC PP 90
noncomputable def C_runtime_errorString_Error : PT := doesC PP 91
noncomputable def C_runtime_errorString_RuntimeError : PT := doesC PP 92
noncomputable def C_runtime_plainError_Error : PT := doesC PP 93
noncomputable def C_runtime_plainError_RuntimeError : PT := doesC PP 94
noncomputable def C_runtime_errorAddressString_Error : PT := doesC PP 95
noncomputable def C_runtime_errorAddressString_RuntimeError : PT := doesC PP 96
noncomputable def C_p_runtime_TypeAssertionError_Error : PT := doesC PP 97
noncomputable def C_p_runtime_TypeAssertionError_RuntimeError : PT := doesC PP 98
noncomputable def C_p_runtime_PanicNilError_Error : PT := doesC PP 99
noncomputable def C_p_runtime_PanicNilError_RuntimeError : PT := doesC PP 100
noncomputable def C_p_internal_abi_Type_Align : PT := doesC PP 101
noncomputable def C_internal_runtime_maps_unhashableTypeError_Error : PT := doesC PP 102
noncomputable def C_internal_runtime_maps_unhashableTypeError_RuntimeError : PT := doesC PP 103
noncomputable def C_api_Errno_Error : PT := doesC PP 104
noncomputable def C_internal_abi_Kind_String : PT := doesC PP 105
end Go.Proofs.Ytccjncflbbhldaa
