/- The seat's types and words (printed by wip/gen/drive.py). -/
import Derived.Test.YtbckabomelngmaaDoorShD1
import Derived.Test.YtbckabomelngmaaDoorProg
import Derived.KernelRfl
set_option maxRecDepth 100000
namespace Go.Proofs.YtbckabomelngmaaDoor
open Go.Sh
noncomputable abbrev PP := Tryd.prog
def tab : List TE := [
  .tupl [],
  .one .val,
  .one (.int .i64),
  .one (.int .i64),
  .one .bool,
  .one (.int .u8),
  .one (.int .u8),
  .strct 4 [.int .i64, .int .i64, .bool, .int .u8] [(0, 2), (1, 3), (2, 4), (3, 6)],
  .strct 4 [.int .i64, .int .i64, .bool, .int .u8] [(0, 2), (1, 3), (2, 4), (3, 6)],
  .one .str,
  .one .str,
  .one .str,
  .one (.int .u64),
  .strct 2 [.str, .int .u64] [(0, 9), (1, 12)],
  .strct 2 [.str, .int .u64] [(0, 9), (1, 12)],
  .one .ptr,
  .one .ptr,
  .one .ptr,
  .strct 1 [.ptr] [(0, 17)],
  .strct 1 [.ptr] [(0, 17)],
  .one .val,
  .one (.int .i32),
  .sl 5 1,
  .one .val,
  .one (.int .i64),
  .one .val,
  .one .val,
  .one .val,
  .sl 39 3,
  .one .val,
  .tupl [22, 24],
  .one .val,
  .tupl [22, 3],
  .one .val,
  .sl 77 3,
  .one .val,
  .one .val,
  .one (.int .u32),
  .strct 3 [.str, .int .u32, .slice] [(0, 9), (1, 37), (2, 22)],
  .strct 3 [.str, .int .u32, .slice] [(0, 9), (1, 37), (2, 22)],
  .sl 22 1,
  .one .val,
  .one .val,
  .one .val,
  .tupl [9, 28, 24],
  .one .val,
  .tupl [9, 34, 3],
  .one .val,
  .one .val,
  .strct 5 [.slice, .slice, .slice, .slice, .int .u8] [(0, 28), (1, 28), (2, 40), (3, 40), (4, 5)],
  .strct 5 [.slice, .slice, .slice, .slice, .int .u8] [(0, 28), (1, 28), (2, 40), (3, 40), (4, 5)],
  .one .val,
  .one .val,
  .one .val,
  .one .val,
  .arr 32 5 1,
  .arr 32 5 1,
  .strct 34 [] [(0, 9), (1, 2), (2, 56)],
  .strct 34 [] [(0, 9), (1, 2), (2, 56)],
  .tupl [9, 24],
  .one .val,
  .tupl [9, 3],
  .one .val,
  .strct 34 [] [(0, 9), (1, 2), (2, 55)],
  .strct 34 [] [(0, 9), (1, 2), (2, 55)],
  .tupl [58, 24],
  .one .val,
  .tupl [64, 3],
  .one .val,
  .one .val,
  .one .val,
  .one .val,
  .one .val,
  .one .val,
  .arr 19 9 1,
  .one .val,
  .one .val,
  .strct 3 [.str, .int .u32, .slice] [(0, 9), (1, 37), (2, 22)],
  .one .val,
  .tupl [9, 9, 4],
  .one .val,
  .sl 9 1,
  .tupl [81, 24],
  .one .val,
  .tupl [39, 4],
  .one .val,
  .one .val,
  .tupl [2, 24],
  .one .val,
  .one .val,
  .arr 3 9 1,
  .one .val,
  .one .val,
  .one (.int .u64),
  .tupl [21, 3],
  .one .val,
  .one .val,
  .one .val,
  .one .ptr,
  .one .val,
  .one .val,
  .one .val,
  .tupl [9, 4],
  .one .val,
  .one .val,
  .sl 3 1,
  .one .val,
  .one .val,
  .one .val,
  .tupl [2, 108],
  .one .val,
  .one .val,
  .one .val,
  .one .val,
  .sl 120 3,
  .sl 123 3,
  .strct 3 [.slice, .slice, .int .i64] [(0, 114), (1, 115), (2, 3)],
  .strct 3 [.slice, .slice, .int .i64] [(0, 114), (1, 115), (2, 3)],
  .one (.int .u16),
  .strct 3 [.int .u16, .int .u16, .int .u16] [(0, 118), (1, 118), (2, 118)],
  .strct 3 [.int .u16, .int .u16, .int .u16] [(0, 118), (1, 118), (2, 118)],
  .one .val,
  .strct 3 [.int .u32, .int .u32, .int .u32] [(0, 37), (1, 37), (2, 37)],
  .strct 3 [.int .u32, .int .u32, .int .u32] [(0, 37), (1, 37), (2, 37)],
  .one .val,
  .one .val,
  .one .val,
  .one .val,
  .arr 24 5 1,
  .one (.int .u64),
  .one .val,
  .one .val,
  .tupl [22, 9],
  .one .val,
  .arr 256 5 1,
  .strct 2 [.int .u8, .int .u8] [(0, 5), (1, 5)],
  .strct 2 [.int .u8, .int .u8] [(0, 5), (1, 5)],
  .arr 16 136 2,
  .one .ptr,
  .one .ptr,
  .tupl [37, 37],
  .one .val,
  .one (.int .i64),
  .tupl [129, 108],
  .one .val,
  .one .ptr,
  .one .val,
  .one .val,
  .one .val,
  .arr 20 129 1,
  .arr 65 5 1,
  .one .val,
  .one .val,
  .one .val,
  .strct 3 [.str, .str, .val] [(0, 9), (1, 9), (2, 108)],
  .strct 3 [.str, .str, .val] [(0, 9), (1, 9), (2, 108)],
  .one .val,
  .one .val,
  .one .ptr,
  .one .ptr,
  .strct 1 [.str] [(0, 9)],
  .strct 1 [.str] [(0, 9)],
  .arr 64 5 1,
  .one .val,
  .strct 4 [.ptr, .ptr, .ptr, .str] [(0, 17), (1, 17), (2, 17), (3, 9)],
  .strct 4 [.ptr, .ptr, .ptr, .str] [(0, 17), (1, 17), (2, 17), (3, 9)],
  .arr 0 16 1,
  .none,
  .none,
  .one .val,
  .one (.int .u8),
  .one (.int .u8),
  .one .val,
  .one (.int .i32),
  .one (.int .i32),
  .strct 11 [.int .u64, .int .u64, .int .u32, .int .u8, .int .u8, .int .u8, .int .u8, .val, .ptr, .int .i32, .int .i32] [(0, 12), (1, 12), (2, 37), (3, 170), (4, 5), (5, 5), (6, 171), (7, 172), (8, 158), (9, 173), (10, 174)],
  .strct 11 [.int .u64, .int .u64, .int .u32, .int .u8, .int .u8, .int .u8, .int .u8, .val, .ptr, .int .i32, .int .i32] [(0, 12), (1, 12), (2, 37), (3, 170), (4, 5), (5, 5), (6, 171), (7, 172), (8, 158), (9, 173), (10, 174)],
  .one .val,
  .one .val,
  .strct 2 [.str, .int .u32] [(0, 9), (1, 37)],
  .strct 2 [.str, .int .u32] [(0, 9), (1, 37)]]
theorem tab_ok : tabOk PP tab = true := by kernel_rfl
theorem mix_ok : PP.follows .mixedOrders = true := by kernel_rfl
noncomputable def C_main_main : PT := doesC PP 0
noncomputable def C_gosem_cut : PT := doesC PP 1
noncomputable def C_gosem_cut_init : PT := doesC PP 2
noncomputable def C_l07_NoteNames : PT := doesC PP 3
noncomputable def C_l07_NoteForms : PT := doesC PP 4
noncomputable def C_l07_NoteBack : PT := doesC PP 5
noncomputable def C_l07_NoteHeads : PT := doesC PP 6
noncomputable def C_l07_NoteHeadBack : PT := doesC PP 7
noncomputable def C_l07_num : PT := doesC PP 8
noncomputable def C_note_CheckName : PT := doesC PP 9
noncomputable def C_r07_CheckName : PT := doesC PP 10
noncomputable def C_l07_copied : PT := doesC PP 11
noncomputable def C_note_Format : PT := doesC PP 12
noncomputable def C_r07_Format : PT := doesC PP 13
noncomputable def C_l07_theirs : PT := doesC PP 14
noncomputable def C_l07_alike : PT := doesC PP 15
noncomputable def C_l07_owned : PT := doesC PP 16
noncomputable def C_l07_marked : PT := doesC PP 17
noncomputable def C_l07_lent : PT := doesC PP 18
noncomputable def C_note_Split : PT := doesC PP 19
noncomputable def C_r07_Split : PT := doesC PP 20
noncomputable def C_l07_whole : PT := doesC PP 21
noncomputable def C_l07_filled : PT := doesC PP 22
noncomputable def C_l07_bears : PT := doesC PP 23
noncomputable def C_l07_plainText : PT := doesC PP 24
noncomputable def C_note_FormatHead : PT := doesC PP 25
noncomputable def C_r07_FormatHead : PT := doesC PP 26
noncomputable def C_note_ParseHead : PT := doesC PP 27
noncomputable def C_r07_ParseHead : PT := doesC PP 28
noncomputable def C_text_FormatNumber : PT := doesC PP 29
noncomputable def C_text_EncodeBase64 : PT := doesC PP 30
noncomputable def C_text_Plain : PT := doesC PP 31
noncomputable def C_strings_Contains : PT := doesC PP 32
noncomputable def C_unicode_IsSpace : PT := doesC PP 33
noncomputable def C_r06_Plain : PT := doesC PP 34
noncomputable def C_r07_holds : PT := doesC PP 35
noncomputable def C_note_length : PT := doesC PP 36
noncomputable def C_note_isText : PT := doesC PP 37
noncomputable def C_note_four : PT := doesC PP 38
noncomputable def C_r07_fit : PT := doesC PP 39
noncomputable def C_r07_line : PT := doesC PP 40
noncomputable def C_text_Cut : PT := doesC PP 41
noncomputable def C_text_Lines : PT := doesC PP 42
noncomputable def C_note_line : PT := doesC PP 43
noncomputable def C_r07_loose : PT := doesC PP 44
noncomputable def C_r06_FormatNumber : PT := doesC PP 45
noncomputable def C_r06_EncodeBase64 : PT := doesC PP 46
noncomputable def C_text_ParseNumber : PT := doesC PP 47
noncomputable def C_text_DecodeBase64 : PT := doesC PP 48
noncomputable def C_r06_DecodeBase64 : PT := doesC PP 49
noncomputable def C_strconv_FormatInt : PT := doesC PP 50
noncomputable def C_unicode_utf8_DecodeRuneInString : PT := doesC PP 51
noncomputable def C_strings_Index : PT := doesC PP 52
noncomputable def C_unicode_isExcludingLatin : PT := doesC PP 53
noncomputable def C_r06_letter : PT := doesC PP 54
noncomputable def C_strings_HasSuffix : PT := doesC PP 55
noncomputable def C_r07_four : PT := doesC PP 56
noncomputable def C_strings_LastIndex : PT := doesC PP 57
noncomputable def C_text_Each : PT := doesC PP 58
noncomputable def C_strings_CutPrefix : PT := doesC PP 59
noncomputable def C_strings_Cut : PT := doesC PP 60
noncomputable def C_r06_bits : PT := doesC PP 61
noncomputable def C_strconv_ParseInt : PT := doesC PP 62
noncomputable def C_strings_TrimSuffix : PT := doesC PP 63
noncomputable def C_text_value : PT := doesC PP 64
noncomputable def C_r06_place : PT := doesC PP 65
noncomputable def C_internal_strconv_FormatInt : PT := doesC PP 66
noncomputable def C_unicode_utf8_decodeRuneInStringSlow : PT := doesC PP 67
noncomputable def C_internal_stringslite_Index : PT := doesC PP 68
noncomputable def C_unicode_is16 : PT := doesC PP 69
noncomputable def C_unicode_is32 : PT := doesC PP 70
noncomputable def C_internal_stringslite_HasSuffix : PT := doesC PP 71
noncomputable def C_internal_bytealg_LastIndexByteString : PT := doesC PP 72
noncomputable def C_internal_bytealg_LastIndexRabinKarp_string : PT := doesC PP 73
noncomputable def C_text_Each_S1 : PT := doesC PP 74
noncomputable def C_internal_stringslite_CutPrefix : PT := doesC PP 75
noncomputable def C_internal_stringslite_Cut : PT := doesC PP 76
noncomputable def C_internal_strconv_ParseInt : PT := doesC PP 77
noncomputable def C_strconv_toError : PT := doesC PP 78
noncomputable def C_internal_stringslite_TrimSuffix : PT := doesC PP 79
noncomputable def C_internal_strconv_small : PT := doesC PP 80
noncomputable def C_internal_strconv_numDigits : PT := doesC PP 81
noncomputable def C_internal_strconv_formatBase10 : PT := doesC PP 82
noncomputable def C_internal_strconv_formatBits : PT := doesC PP 83
noncomputable def C_internal_stringslite_IndexByte : PT := doesC PP 84
noncomputable def C_internal_bytealg_IndexString : PT := doesC PP 85
noncomputable def C_internal_bytealg_Cutover : PT := doesC PP 86
noncomputable def C_internal_bytealg_IndexRabinKarp_string : PT := doesC PP 87
noncomputable def C_internal_bytealg_hashStrRev_string : PT := doesC PP 88
noncomputable def C_internal_stringslite_HasPrefix : PT := doesC PP 89
noncomputable def C_internal_strconv_ParseUint : PT := doesC PP 90
noncomputable def C_strconv_syntaxError : PT := doesC PP 91
noncomputable def C_strconv_rangeError : PT := doesC PP 92
noncomputable def C_strconv_baseError : PT := doesC PP 93
noncomputable def C_strconv_bitSizeError : PT := doesC PP 94
noncomputable def C_internal_strconv_log10Pow2 : PT := doesC PP 95
noncomputable def C_math_bits_Len64 : PT := doesC PP 96
noncomputable def C_internal_strconv_bool2_int : PT := doesC PP 97
noncomputable def C_internal_strconv_isPowerOfTwo : PT := doesC PP 98
noncomputable def C_math_bits_TrailingZeros : PT := doesC PP 99
noncomputable def C_internal_bytealg_IndexByteString : PT := doesC PP 100
noncomputable def C_internal_bytealg_hashStr_string : PT := doesC PP 101
noncomputable def C_internal_strconv_lower : PT := doesC PP 102
noncomputable def C_internal_strconv_underscoreOK : PT := doesC PP 103
noncomputable def C_internal_stringslite_Clone : PT := doesC PP 104
noncomputable def C_errors_New : PT := doesC PP 105
noncomputable def C_strconv_Itoa : PT := doesC PP 106
noncomputable def C_math_bits_TrailingZeros32 : PT := doesC PP 107
noncomputable def C_math_bits_TrailingZeros64 : PT := doesC PP 108
noncomputable def C_internal_strconv_Itoa : PT := doesC PP 109
noncomputable def C_runtime_boundsError_Error : PT := doesC PP 110
noncomputable def C_runtime_boundsError_RuntimeError : PT := doesC PP 111
noncomputable def C_runtime_errorString_Error : PT := doesC PP 112
noncomputable def C_runtime_errorString_RuntimeError : PT := doesC PP 113
noncomputable def C_runtime_plainError_Error : PT := doesC PP 114
noncomputable def C_runtime_plainError_RuntimeError : PT := doesC PP 115
noncomputable def C_runtime_errorAddressString_Error : PT := doesC PP 116
noncomputable def C_runtime_errorAddressString_RuntimeError : PT := doesC PP 117
noncomputable def C_p_runtime_TypeAssertionError_Error : PT := doesC PP 118
noncomputable def C_p_runtime_TypeAssertionError_RuntimeError : PT := doesC PP 119
noncomputable def C_p_runtime_PanicNilError_Error : PT := doesC PP 120
noncomputable def C_p_runtime_PanicNilError_RuntimeError : PT := doesC PP 121
noncomputable def C_p_internal_abi_Type_Align : PT := doesC PP 122
noncomputable def C_internal_runtime_maps_unhashableTypeError_Error : PT := doesC PP 123
noncomputable def C_internal_runtime_maps_unhashableTypeError_RuntimeError : PT := doesC PP 124
noncomputable def C_api_Errno_Error : PT := doesC PP 125
noncomputable def C_note_Signature_bearer : PT := doesC PP 126
noncomputable def C_internal_strconv_Error_Error : PT := doesC PP 127
noncomputable def C_p_strconv_NumError_Error : PT := doesC PP 128
noncomputable def C_p_errors_errorString_Error : PT := doesC PP 129
noncomputable def C_internal_abi_Kind_String : PT := doesC PP 130
noncomputable def C_var_s_door_unicode_White_Space_holds_what_its_initialiser_lays_and_nothing_in_the_loaded_text_writes_it_or_what_it_leads_to_look_11_elder : PT := doesC PP 131
noncomputable def C_var_s_door_unicode__White_Space_holds_what_its_initialiser_lays_and_nothing_in_the_loaded_text_writes_it_or_what_it_leads_to_look_11_elder : PT := doesC PP 132
noncomputable def C_var_s_door_gosem_cut_vars_holds_initialisers_alone_see_the_manifest_s_row_cutvarsword_look_11_test_files_too : PT := doesC PP 133
noncomputable def C_var_s_door_internal_strconv_uint64pow10_is_laid_by_its_own_initialiser_plain_data_look_11 : PT := doesC PP 134
noncomputable def C_var_s_door_r07_blanks_is_laid_by_its_own_initialiser_plain_data_look_11 : PT := doesC PP 135
noncomputable def C_var_s_door_math_bits_deBruijn32tab_is_laid_by_its_own_initialiser_plain_data_look_11 : PT := doesC PP 136
noncomputable def C_var_s_door_math_bits_deBruijn64tab_is_laid_by_its_own_initialiser_plain_data_look_11 : PT := doesC PP 137
noncomputable def C_var_s_door_strconv_ErrRange_is_laid_by_its_own_call_of_errors_New_on_one_literal_look_11 : PT := doesC PP 138
noncomputable def C_var_s_door_strconv_ErrSyntax_is_laid_by_its_own_call_of_errors_New_on_one_literal_look_11 : PT := doesC PP 139
noncomputable def C_var_s_door_the_look_of_gosem_cut_vars_went_over_the_folder_that_the_caller_named_as_the_repository_s_root_look_11 : PT := doesC PP 140
noncomputable def C_var_s_door_unicode_White_Space_is_laid_by_its_own_initialiser_on_the_list_of_Go_s_own_tables_list_10 : PT := doesC PP 141
noncomputable def C_var_s_door_unicode__White_Space_is_laid_by_its_own_initialiser_on_the_list_of_Go_s_own_tables_list_10 : PT := doesC PP 142
noncomputable def C_var_s_door_unicode_utf8_acceptRanges_is_laid_by_its_own_initialiser_plain_data_look_11 : PT := doesC PP 143
noncomputable def C_var_s_door_unicode_utf8_first_is_laid_by_its_text_alone_pinned_1 : PT := doesC PP 144
noncomputable def C_gosem_cut_vars : PT := doesC PP 145
end Go.Proofs.YtbckabomelngmaaDoor
