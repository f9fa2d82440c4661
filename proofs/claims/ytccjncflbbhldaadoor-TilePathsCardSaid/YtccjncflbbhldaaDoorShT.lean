/- The seat's types and words (printed by wip/gen/drive.py). -/
import Derived.Test.YtccjncflbbhldaaDoorShD1
import Derived.Test.YtccjncflbbhldaaDoorProg
import Derived.KernelRfl
set_option maxRecDepth 100000
namespace Go.Proofs.YtccjncflbbhldaaDoor
open Go.Sh
noncomputable abbrev PP := Tryd.prog
def tab : List TE := [
  .tupl [],
  .one .val,
  .one (.int .i64),
  .one (.int .i64),
  .one .bool,
  .one (.int .u8),
  .one (.int .u8),
  .strct 4 [.int .i64, .int .i64, .bool, .int .u8] [(0, 2), (1, 3), (2, 4), (3, 6)],
  .strct 4 [.int .i64, .int .i64, .bool, .int .u8] [(0, 2), (1, 3), (2, 4), (3, 6)],
  .one .str,
  .one .str,
  .one .str,
  .one (.int .u64),
  .strct 2 [.str, .int .u64] [(0, 9), (1, 12)],
  .strct 2 [.str, .int .u64] [(0, 9), (1, 12)],
  .one .ptr,
  .one .ptr,
  .one .ptr,
  .strct 1 [.ptr] [(0, 17)],
  .strct 1 [.ptr] [(0, 17)],
  .one .val,
  .one (.int .i32),
  .sl 29 32,
  .strct 5 [.int .i64, .int .i64, .int .i64, .int .i64, .bool] [(0, 3), (1, 3), (2, 2), (3, 3), (4, 4)],
  .strct 5 [.int .i64, .int .i64, .int .i64, .int .i64, .bool] [(0, 3), (1, 3), (2, 2), (3, 3), (4, 4)],
  .sl 5 1,
  .strct 9 [.int .i64, .slice, .int .i64, .int .i64, .int .i64, .int .i64, .bool, .slice, .int .i64] [(0, 3), (1, 22), (2, 24), (7, 25), (8, 2)],
  .strct 9 [.int .i64, .slice, .int .i64, .int .i64, .int .i64, .int .i64, .bool, .slice, .int .i64] [(0, 3), (1, 22), (2, 24), (7, 25), (8, 2)],
  .arr 32 5 1,
  .arr 32 5 1,
  .one (.int .i64),
  .tupl [25, 30],
  .one .val,
  .tupl [25, 3],
  .one .val,
  .sl 28 32,
  .one .val,
  .strct 5 [.int .i64, .int .i64, .int .i64, .int .i64, .bool] [(0, 3), (1, 3), (2, 2), (3, 3), (4, 4)],
  .one .val,
  .one .val,
  .one .val,
  .sl 25 1,
  .one .val,
  .one .val,
  .one .val,
  .tupl [29, 30],
  .one .val,
  .tupl [28, 3],
  .one .val,
  .one .val,
  .one .val,
  .sl 2 1,
  .strct 5 [.int .i64, .int .i64, .int .i64, .int .i64, .slice] [(0, 3), (1, 3), (2, 3), (3, 3), (4, 51)],
  .strct 5 [.int .i64, .int .i64, .int .i64, .int .i64, .slice] [(0, 3), (1, 3), (2, 3), (3, 3), (4, 51)],
  .one .val,
  .tupl [22, 29, 4],
  .one .val,
  .tupl [24, 30],
  .one .val,
  .tupl [3, 30],
  .one .val,
  .one .val,
  .one .val,
  .one .val,
  .sl 24 5,
  .tupl [64, 41, 4],
  .one .val,
  .tupl [22, 30],
  .one .val,
  .one .val,
  .one .val,
  .tupl [9, 30],
  .one .val,
  .tupl [9, 3],
  .one .val,
  .one .val,
  .tupl [37, 3],
  .one .val,
  .one .val,
  .one (.int .u64),
  .tupl [2, 30],
  .one .val,
  .one .val,
  .one .val,
  .tupl [3, 3],
  .one .val,
  .one .val,
  .one .val,
  .one .val,
  .strct 7 [.int .i64, .int .i64, .int .i64, .int .i64, .bool, .int .i64, .int .i64] [(0, 24), (5, 3), (6, 3)],
  .strct 7 [.int .i64, .int .i64, .int .i64, .int .i64, .bool, .int .i64, .int .i64] [(0, 24), (5, 3), (6, 3)],
  .tupl [90, 4],
  .one .val,
  .one .val,
  .tupl [3, 3, 4],
  .one .val,
  .one .val,
  .one .val,
  .one .val,
  .one .val,
  .one .val,
  .tupl [64, 30],
  .one .val,
  .one .map,
  .one .map,
  .strct 4 [.int .i64, .int .i64, .int .i64, .map] [(0, 3), (1, 3), (2, 2), (3, 104)],
  .strct 4 [.int .i64, .int .i64, .int .i64, .map] [(0, 3), (1, 3), (2, 2), (3, 104)],
  .tupl [51, 30],
  .one .val,
  .one .val,
  .one .val,
  .one .val,
  .one .val,
  .one .ptr,
  .strct 2 [.ptr, .slice] [(0, 113), (1, 25)],
  .strct 2 [.ptr, .slice] [(0, 113), (1, 25)],
  .one .val,
  .one .val,
  .tupl [3, 117],
  .one .val,
  .one .val,
  .one .val,
  .one .val,
  .one .val,
  .one .val,
  .sl 9 1,
  .one .val,
  .one .val,
  .one .val,
  .one .val,
  .one .val,
  .one .val,
  .tupl [3, 2, 30],
  .one .val,
  .one .val,
  .one .val,
  .tupl [3, 3, 3],
  .one .val,
  .one .val,
  .one .val,
  .one .val,
  .one .val,
  .strct 4 [.int .i64, .val, .val, .val] [(0, 3), (1, 140), (2, 140), (3, 141)],
  .strct 4 [.int .i64, .val, .val, .val] [(0, 3), (1, 140), (2, 140), (3, 141)],
  .one .val,
  .one .ptr,
  .one .val,
  .one .val,
  .strct 6 [.int .i64, .val, .val, .val, .slice, .int .i64] [(0, 143), (4, 22), (5, 2)],
  .strct 6 [.int .i64, .val, .val, .val, .slice, .int .i64] [(0, 143), (4, 22), (5, 2)],
  .one .val,
  .one .val,
  .one .val,
  .sl 51 1,
  .one .val,
  .one .val,
  .one .val,
  .one .val,
  .one .val,
  .one .val,
  .one .ptr,
  .one .val,
  .one .val,
  .one .val,
  .one .val,
  .one .val,
  .tupl [2, 117],
  .one .val,
  .one .val,
  .one (.int .u64),
  .one .val,
  .one .val,
  .one .val,
  .one .val,
  .one .val,
  .sl 3 1,
  .one .val,
  .one .val,
  .one .val,
  .one .val,
  .arr 24 5 1,
  .one .val,
  .tupl [25, 9],
  .one .val,
  .one .val,
  .one .val,
  .one .val,
  .one .val,
  .one .val,
  .one .ptr,
  .tupl [189, 30],
  .one .val,
  .one .val,
  .one .val,
  .one .val,
  .one (.int .i64),
  .tupl [3, 195],
  .one .val,
  .one .val,
  .one .val,
  .tupl [3, 4],
  .one .val,
  .one .val,
  .one (.int .u32),
  .one .val,
  .arr 20 169 1,
  .arr 65 5 1,
  .one .val,
  .one .val,
  .one (.int .i64),
  .one .ptr,
  .one .val,
  .one .val,
  .tupl [21, 3],
  .one .val,
  .tupl [169, 117],
  .one .val,
  .one .val,
  .arr 8 169 1,
  .strct 11 [] [(0, 3), (1, 218), (9, 169), (10, 25)],
  .strct 11 [] [(0, 3), (1, 218), (9, 169), (10, 25)],
  .one .val,
  .one .val,
  .arr 8 203 1,
  .strct 16 [] [(0, 223), (8, 218)],
  .strct 16 [] [(0, 223), (8, 218)],
  .one .val,
  .strct 19 [] [(0, 3), (1, 2), (2, 225), (18, 25)],
  .strct 19 [] [(0, 3), (1, 2), (2, 225), (18, 25)],
  .one .val,
  .one (.int .u64),
  .one .val,
  .one .val,
  .one .val,
  .one .ptr,
  .one .val,
  .one .val,
  .one .val,
  .one .val,
  .strct 3 [.str, .str, .val] [(0, 9), (1, 9), (2, 117)],
  .strct 3 [.str, .str, .val] [(0, 9), (1, 9), (2, 117)],
  .one .val,
  .one .val,
  .one .val,
  .one .val,
  .one .val,
  .one .val,
  .arr 64 203 1,
  .one .val,
  .sl 203 1,
  .one .val,
  .one .ptr,
  .arr 3 3 1,
  .strct 12 [] [(0, 252), (3, 252), (6, 252), (9, 252)],
  .strct 12 [] [(0, 252), (3, 252), (6, 252), (9, 252)],
  .arr 80 169 1,
  .one .val,
  .sl 169 1,
  .one .val,
  .one .ptr,
  .one .val,
  .one .val,
  .one .ptr,
  .one .val,
  .arr 64 5 1,
  .one .ptr,
  .strct 1 [.str] [(0, 9)],
  .strct 1 [.str] [(0, 9)],
  .arr 256 5 1,
  .strct 2 [.int .u8, .int .u8] [(0, 5), (1, 5)],
  .strct 2 [.int .u8, .int .u8] [(0, 5), (1, 5)],
  .arr 16 270 2,
  .one .val,
  .one .val,
  .one .val,
  .one .val,
  .one .val,
  .tupl [203, 203],
  .one .val,
  .arr 12 79 1,
  .arr 3 279 12,
  .one .val,
  .one .val,
  .strct 4 [.ptr, .ptr, .ptr, .str] [(0, 17), (1, 17), (2, 17), (3, 9)],
  .strct 4 [.ptr, .ptr, .ptr, .str] [(0, 17), (1, 17), (2, 17), (3, 9)],
  .arr 0 16 1,
  .none,
  .none,
  .one (.int .u8),
  .one (.int .u8),
  .one .val,
  .one (.int .i32),
  .one (.int .i32),
  .strct 11 [.int .u64, .int .u64, .int .u32, .int .u8, .int .u8, .int .u8, .int .u8, .val, .ptr, .int .i32, .int .i32] [(0, 12), (1, 12), (2, 203), (3, 288), (4, 5), (5, 5), (6, 289), (7, 290), (8, 160), (9, 291), (10, 292)],
  .strct 11 [.int .u64, .int .u64, .int .u32, .int .u8, .int .u8, .int .u8, .int .u8, .val, .ptr, .int .i32, .int .i32] [(0, 12), (1, 12), (2, 203), (3, 288), (4, 5), (5, 5), (6, 289), (7, 290), (8, 160), (9, 291), (10, 292)],
  .one .val]
theorem tab_ok : tabOk PP tab = true := by kernel_rfl
theorem mix_ok : PP.follows .mixedOrders = true := by kernel_rfl
noncomputable def C_main_main : PT := doesC PP 0
noncomputable def C_gosem_cut : PT := doesC PP 1
noncomputable def C_gosem_cut_init : PT := doesC PP 2
noncomputable def C_l10_TileBytes : PT := doesC PP 3
noncomputable def C_l10_TileWidths : PT := doesC PP 4
noncomputable def C_l10_TileReads : PT := doesC PP 5
noncomputable def C_l10_TileSpoilt : PT := doesC PP 6
noncomputable def C_l10_TilePaths : PT := doesC PP 7
noncomputable def C_l10_TileOnce : PT := doesC PP 8
noncomputable def C_tile_FromTree : PT := doesC PP 9
noncomputable def C_r10_FromTree : PT := doesC PP 10
noncomputable def C_l10_plain : PT := doesC PP 11
noncomputable def C_l10_doc : PT := doesC PP 12
noncomputable def C_l10_num : PT := doesC PP 13
noncomputable def C_l10_hashes : PT := doesC PP 14
noncomputable def C_l10_owned : PT := doesC PP 15
noncomputable def C_l10_marked : PT := doesC PP 16
noncomputable def C_l10_lent : PT := doesC PP 17
noncomputable def C_tile_Inside : PT := doesC PP 18
noncomputable def C_r10_Inside : PT := doesC PP 19
noncomputable def C_l10_whole : PT := doesC PP 20
noncomputable def C_l10_within : PT := doesC PP 21
noncomputable def C_l10_tree : PT := doesC PP 22
noncomputable def C_tile_Of : PT := doesC PP 23
noncomputable def C_tile_Width : PT := doesC PP 24
noncomputable def C_tile_Check : PT := doesC PP 25
noncomputable def C_l10_asked : PT := doesC PP 26
noncomputable def C_l10_fetched : PT := doesC PP 27
noncomputable def C_tile_Read : PT := doesC PP 28
noncomputable def C_l10_certain : PT := doesC PP 29
noncomputable def C_r10_Check : PT := doesC PP 30
noncomputable def C_tile_Path : PT := doesC PP 31
noncomputable def C_r10_Path : PT := doesC PP 32
noncomputable def C_tile_ParsePath : PT := doesC PP 33
noncomputable def C_r10_ParsePath : PT := doesC PP 34
noncomputable def C_tlog_Records : PT := doesC PP 35
noncomputable def C_tile_widthOf : PT := doesC PP 36
noncomputable def C_tlog_Index : PT := doesC PP 37
noncomputable def C_r08_Records : PT := doesC PP 38
noncomputable def C_r10_Width : PT := doesC PP 39
noncomputable def C_r08_Index : PT := doesC PP 40
noncomputable def C_r10_power : PT := doesC PP 41
noncomputable def C_tile_seatOf : PT := doesC PP 42
noncomputable def C_tile_joined : PT := doesC PP 43
noncomputable def C_r10_where : PT := doesC PP 44
noncomputable def C_r10_joined : PT := doesC PP 45
noncomputable def C_tlog_LeafHash : PT := doesC PP 46
noncomputable def C_tlog_Build : PT := doesC PP 47
noncomputable def C_tlog_Root : PT := doesC PP 48
noncomputable def C_tile_sizes : PT := doesC PP 49
noncomputable def C_tile_full : PT := doesC PP 50
noncomputable def C_tile_Plan : PT := doesC PP 51
noncomputable def C_tlog_Peaks : PT := doesC PP 52
noncomputable def C_tlog_Fold : PT := doesC PP 53
noncomputable def C_tile_shelf_hashes : PT := doesC PP 54
noncomputable def C_tile_shelf_hash : PT := doesC PP 55
noncomputable def C_tile_topOf : PT := doesC PP 56
noncomputable def C_l10_heavy : PT := doesC PP 57
noncomputable def C_l10_up : PT := doesC PP 58
noncomputable def C_p_strings_Builder_WriteString : PT := doesC PP 59
noncomputable def C_strconv_Itoa : PT := doesC PP 60
noncomputable def C_strconv_FormatInt : PT := doesC PP 61
noncomputable def C_p_strings_Builder_String : PT := doesC PP 62
noncomputable def C_r10_digits : PT := doesC PP 63
noncomputable def C_tile_guess : PT := doesC PP 64
noncomputable def C_r10_words : PT := doesC PP 65
noncomputable def C_r10_loose : PT := doesC PP 66
noncomputable def C_tlog_count : PT := doesC PP 67
noncomputable def C_tlog_filled : PT := doesC PP 68
noncomputable def C_tlog_place : PT := doesC PP 69
noncomputable def C_r08_record : PT := doesC PP 70
noncomputable def C_r08_laid : PT := doesC PP 71
noncomputable def C_r10_nodes : PT := doesC PP 72
noncomputable def C_r08_power : PT := doesC PP 73
noncomputable def C_tlog_SplitIndex : PT := doesC PP 74
noncomputable def C_tlog_NodeHash : PT := doesC PP 75
noncomputable def C_r10_Of : PT := doesC PP 76
noncomputable def C_r08_SplitIndex : PT := doesC PP 77
noncomputable def C_r10_hashAt : PT := doesC PP 78
noncomputable def C_r08_Node : PT := doesC PP 79
noncomputable def C_tlog_hasherOf : PT := doesC PP 80
noncomputable def C_tlog_New : PT := doesC PP 81
noncomputable def C_p_tlog_Tree_Add : PT := doesC PP 82
noncomputable def C_tlog_hasher_root : PT := doesC PP 83
noncomputable def C_tlog_pick : PT := doesC PP 84
noncomputable def C_tlog_peaks : PT := doesC PP 85
noncomputable def C_tlog_Count : PT := doesC PP 86
noncomputable def C_tile_need : PT := doesC PP 87
noncomputable def C_slices_SortFunc_tile_Tile_tile_Tile : PT := doesC PP 88
noncomputable def C_tile_Plan_S1 : PT := doesC PP 89
noncomputable def C_cmp_Or_int : PT := doesC PP 90
noncomputable def C_cmp_Compare_int : PT := doesC PP 91
noncomputable def C_cmp_Compare_int64 : PT := doesC PP 92
noncomputable def C_tile_wide : PT := doesC PP 93
noncomputable def C_p_strings_Builder_copyCheck : PT := doesC PP 94
noncomputable def C_internal_strconv_Itoa : PT := doesC PP 95
noncomputable def C_internal_strconv_FormatInt : PT := doesC PP 96
noncomputable def C_strings_Split : PT := doesC PP 97
noncomputable def C_strconv_Atoi : PT := doesC PP 98
noncomputable def C_strings_HasSuffix : PT := doesC PP 99
noncomputable def C_strings_TrimSuffix : PT := doesC PP 100
noncomputable def C_strings_ReplaceAll : PT := doesC PP 101
noncomputable def C_strings_Join : PT := doesC PP 102
noncomputable def C_strconv_ParseInt : PT := doesC PP 103
noncomputable def C_math_bits_OnesCount64 : PT := doesC PP 104
noncomputable def C_r01_Sum256 : PT := doesC PP 105
noncomputable def C_r08_weak : PT := doesC PP 106
noncomputable def C_tlog_hasherOf_S1 : PT := doesC PP 107
noncomputable def C_sha_Sum256 : PT := doesC PP 108
noncomputable def C_tlog_hasherOf_S2 : PT := doesC PP 109
noncomputable def C_tlog_hasherOf_S3 : PT := doesC PP 110
noncomputable def C_tlog_fold : PT := doesC PP 111
noncomputable def C_tlog_hasher_join : PT := doesC PP 112
noncomputable def C_slices_pdqsortCmpFunc_tile_Tile : PT := doesC PP 113
noncomputable def C_math_bits_Len : PT := doesC PP 114
noncomputable def C_cmp_isNaN_int : PT := doesC PP 115
noncomputable def C_cmp_isNaN_int64 : PT := doesC PP 116
noncomputable def C_internal_abi_NoEscape : PT := doesC PP 117
noncomputable def C_internal_strconv_small : PT := doesC PP 118
noncomputable def C_internal_strconv_numDigits : PT := doesC PP 119
noncomputable def C_internal_strconv_formatBase10 : PT := doesC PP 120
noncomputable def C_internal_strconv_formatBits : PT := doesC PP 121
noncomputable def C_strings_genSplit : PT := doesC PP 122
noncomputable def C_internal_strconv_Atoi : PT := doesC PP 123
noncomputable def C_strconv_toError : PT := doesC PP 124
noncomputable def C_internal_stringslite_HasSuffix : PT := doesC PP 125
noncomputable def C_internal_stringslite_TrimSuffix : PT := doesC PP 126
noncomputable def C_strings_Replace : PT := doesC PP 127
noncomputable def C_p_strings_Builder_Grow : PT := doesC PP 128
noncomputable def C_internal_strconv_ParseInt : PT := doesC PP 129
noncomputable def C_r01_Hash : PT := doesC PP 130
noncomputable def C_sha_New : PT := doesC PP 131
noncomputable def C_p_sha_Digest_Write : PT := doesC PP 132
noncomputable def C_p_sha_Digest_Sum : PT := doesC PP 133
noncomputable def C_slices_insertionSortCmpFunc_tile_Tile : PT := doesC PP 134
noncomputable def C_slices_heapSortCmpFunc_tile_Tile : PT := doesC PP 135
noncomputable def C_slices_breakPatternsCmpFunc_tile_Tile : PT := doesC PP 136
noncomputable def C_slices_choosePivotCmpFunc_tile_Tile : PT := doesC PP 137
noncomputable def C_slices_reverseRangeCmpFunc_tile_Tile : PT := doesC PP 138
noncomputable def C_slices_partialInsertionSortCmpFunc_tile_Tile : PT := doesC PP 139
noncomputable def C_slices_partitionEqualCmpFunc_tile_Tile : PT := doesC PP 140
noncomputable def C_slices_partitionCmpFunc_tile_Tile : PT := doesC PP 141
noncomputable def C_math_bits_Len32 : PT := doesC PP 142
noncomputable def C_math_bits_Len64 : PT := doesC PP 143
noncomputable def C_internal_strconv_log10Pow2 : PT := doesC PP 144
noncomputable def C_internal_strconv_bool2_int : PT := doesC PP 145
noncomputable def C_internal_strconv_isPowerOfTwo : PT := doesC PP 146
noncomputable def C_math_bits_TrailingZeros : PT := doesC PP 147
noncomputable def C_strings_explode : PT := doesC PP 148
noncomputable def C_strings_Count : PT := doesC PP 149
noncomputable def C_strings_Index : PT := doesC PP 150
noncomputable def C_strconv_syntaxError : PT := doesC PP 151
noncomputable def C_strconv_rangeError : PT := doesC PP 152
noncomputable def C_strconv_baseError : PT := doesC PP 153
noncomputable def C_strconv_bitSizeError : PT := doesC PP 154
noncomputable def C_unicode_utf8_DecodeRuneInString : PT := doesC PP 155
noncomputable def C_p_strings_Builder_grow : PT := doesC PP 156
noncomputable def C_internal_strconv_ParseUint : PT := doesC PP 157
noncomputable def C_r01_Told : PT := doesC PP 158
noncomputable def C_r01_Given : PT := doesC PP 159
noncomputable def C_r01_Begin : PT := doesC PP 160
noncomputable def C_sha_start : PT := doesC PP 161
noncomputable def C_p_sha_Digest_block : PT := doesC PP 162
noncomputable def C_p_sha_Digest_mix : PT := doesC PP 163
noncomputable def C_p_sha_Digest_words : PT := doesC PP 164
noncomputable def C_slices_siftDownCmpFunc_tile_Tile : PT := doesC PP 165
noncomputable def C_slices_nextPowerOfTwo : PT := doesC PP 166
noncomputable def C_p_slices_xorshift_Next : PT := doesC PP 167
noncomputable def C_slices_medianAdjacentCmpFunc_tile_Tile : PT := doesC PP 168
noncomputable def C_slices_medianCmpFunc_tile_Tile : PT := doesC PP 169
noncomputable def C_math_bits_TrailingZeros32 : PT := doesC PP 170
noncomputable def C_math_bits_TrailingZeros64 : PT := doesC PP 171
noncomputable def C_unicode_utf8_RuneCountInString : PT := doesC PP 172
noncomputable def C_internal_bytealg_CountString : PT := doesC PP 173
noncomputable def C_internal_stringslite_Index : PT := doesC PP 174
noncomputable def C_internal_stringslite_Clone : PT := doesC PP 175
noncomputable def C_errors_New : PT := doesC PP 176
noncomputable def C_unicode_utf8_decodeRuneInStringSlow : PT := doesC PP 177
noncomputable def C_internal_bytealg_MakeNoZero : PT := doesC PP 178
noncomputable def C_internal_strconv_lower : PT := doesC PP 179
noncomputable def C_internal_strconv_underscoreOK : PT := doesC PP 180
noncomputable def C_r01_Block : PT := doesC PP 181
noncomputable def C_r01_bytesOf : PT := doesC PP 182
noncomputable def C_r01_wide : PT := doesC PP 183
noncomputable def C_r01_mixed : PT := doesC PP 184
noncomputable def C_sha_load_uint32 : PT := doesC PP 185
noncomputable def C_sha_compress_uint32 : PT := doesC PP 186
noncomputable def C_sha_load_uint64 : PT := doesC PP 187
noncomputable def C_sha_compress_uint64 : PT := doesC PP 188
noncomputable def C_sha_lay_uint32 : PT := doesC PP 189
noncomputable def C_sha_lay_uint64 : PT := doesC PP 190
noncomputable def C_slices_order2CmpFunc_tile_Tile : PT := doesC PP 191
noncomputable def C_internal_stringslite_IndexByte : PT := doesC PP 192
noncomputable def C_internal_bytealg_IndexString : PT := doesC PP 193
noncomputable def C_internal_bytealg_Cutover : PT := doesC PP 194
noncomputable def C_internal_bytealg_IndexRabinKarp_string : PT := doesC PP 195
noncomputable def C_r01_plan : PT := doesC PP 196
noncomputable def C_r01_round : PT := doesC PP 197
noncomputable def C_r01_word : PT := doesC PP 198
noncomputable def C_sha_turn_uint32 : PT := doesC PP 199
noncomputable def C_sha_turn_uint64 : PT := doesC PP 200
noncomputable def C_internal_bytealg_IndexByteString : PT := doesC PP 201
noncomputable def C_internal_bytealg_hashStr_string : PT := doesC PP 202
noncomputable def C_r01_number : PT := doesC PP 203
noncomputable def C_r01_turn : PT := doesC PP 204
noncomputable def C_runtime_boundsError_Error : PT := doesC PP 205
noncomputable def C_runtime_boundsError_RuntimeError : PT := doesC PP 206
noncomputable def C_runtime_errorString_Error : PT := doesC PP 207
noncomputable def C_runtime_errorString_RuntimeError : PT := doesC PP 208
noncomputable def C_runtime_plainError_Error : PT := doesC PP 209
noncomputable def C_runtime_plainError_RuntimeError : PT := doesC PP 210
noncomputable def C_runtime_errorAddressString_Error : PT := doesC PP 211
noncomputable def C_runtime_errorAddressString_RuntimeError : PT := doesC PP 212
noncomputable def C_p_runtime_TypeAssertionError_Error : PT := doesC PP 213
noncomputable def C_p_runtime_TypeAssertionError_RuntimeError : PT := doesC PP 214
noncomputable def C_p_runtime_PanicNilError_Error : PT := doesC PP 215
noncomputable def C_p_runtime_PanicNilError_RuntimeError : PT := doesC PP 216
noncomputable def C_p_internal_abi_Type_Align : PT := doesC PP 217
noncomputable def C_internal_runtime_maps_unhashableTypeError_Error : PT := doesC PP 218
noncomputable def C_internal_runtime_maps_unhashableTypeError_RuntimeError : PT := doesC PP 219
noncomputable def C_api_Errno_Error : PT := doesC PP 220
noncomputable def C_p_strings_Builder_Reset : PT := doesC PP 221
noncomputable def C_p_tlog_Tree_Size : PT := doesC PP 222
noncomputable def C_p_sha_Digest_Reset : PT := doesC PP 223
noncomputable def C_internal_strconv_Error_Error : PT := doesC PP 224
noncomputable def C_p_strconv_NumError_Error : PT := doesC PP 225
noncomputable def C_p_errors_errorString_Error : PT := doesC PP 226
noncomputable def C_internal_abi_Kind_String : PT := doesC PP 227
noncomputable def C_var_s_door_gosem_cut_vars_holds_initialisers_alone_see_the_manifest_s_row_cutvarsword_look_11_test_files_too : PT := doesC PP 228
noncomputable def C_var_s_door_internal_strconv_uint64pow10_is_laid_by_its_own_initialiser_plain_data_look_11 : PT := doesC PP 229
noncomputable def C_var_s_door_r01_cubes_is_laid_by_its_own_initialiser_plain_data_look_11 : PT := doesC PP 230
noncomputable def C_var_s_door_r01_squares_is_laid_by_its_own_initialiser_plain_data_look_11 : PT := doesC PP 231
noncomputable def C_var_s_door_r01_turns_is_laid_by_its_own_initialiser_plain_data_look_11 : PT := doesC PP 232
noncomputable def C_var_s_door_sha_rounds256_is_laid_by_its_own_initialiser_plain_data_by_the_wider_look_data_2 : PT := doesC PP 233
noncomputable def C_var_s_door_sha_rounds256_was_passed_by_the_deep_look_deep_1 : PT := doesC PP 234
noncomputable def C_var_s_door_sha_rounds512_is_laid_by_its_own_initialiser_plain_data_by_the_wider_look_data_2 : PT := doesC PP 235
noncomputable def C_var_s_door_sha_rounds512_was_passed_by_the_deep_look_deep_1 : PT := doesC PP 236
noncomputable def C_var_s_door_sha_starts_is_laid_by_its_own_initialiser_plain_data_look_11 : PT := doesC PP 237
noncomputable def C_var_s_door_sha_turns256_is_laid_by_its_own_initialiser_plain_data_look_11 : PT := doesC PP 238
noncomputable def C_var_s_door_sha_turns512_is_laid_by_its_own_initialiser_plain_data_look_11 : PT := doesC PP 239
noncomputable def C_var_s_door_math_bits_deBruijn32tab_is_laid_by_its_own_initialiser_plain_data_look_11 : PT := doesC PP 240
noncomputable def C_var_s_door_math_bits_deBruijn64tab_is_laid_by_its_own_initialiser_plain_data_look_11 : PT := doesC PP 241
noncomputable def C_var_s_door_strconv_ErrRange_is_laid_by_its_own_call_of_errors_New_on_one_literal_look_11 : PT := doesC PP 242
noncomputable def C_var_s_door_strconv_ErrSyntax_is_laid_by_its_own_call_of_errors_New_on_one_literal_look_11 : PT := doesC PP 243
noncomputable def C_var_s_door_the_look_of_gosem_cut_vars_went_over_the_folder_that_the_caller_named_as_the_repository_s_root_look_11 : PT := doesC PP 244
noncomputable def C_var_s_door_unicode_utf8_acceptRanges_is_laid_by_its_own_initialiser_plain_data_look_11 : PT := doesC PP 245
noncomputable def C_var_s_door_unicode_utf8_first_is_laid_by_its_text_alone_pinned_1 : PT := doesC PP 246
noncomputable def C_gosem_cut_vars : PT := doesC PP 247
end Go.Proofs.YtccjncflbbhldaaDoor
