import Derived.Test.YtcjkmikiinljmaaGreatDoorCode
import Derived.Test.YtcjkmikiinljmaaGreatDoorLClone
import Derived.Test.YtcjkmikiinljmaaGreatDoorSortSeat
import Derived.Test.YtcjkmikiinljmaaGreatDoorShelf
import Derived.Test.YtcjkmikiinljmaaGreatDoorAbB3
import Derived.KernelRfl
import Derived.Test.YtcjkmikiinljmaaGreatDoorProg
namespace Ab
open Go Go.Proofs
def names : Names := ⟨fun n => [0, 0, 0, 0, 1, 0, 0, 0, 0, 0, 0, 0, 0, 0, 0, 0, 0, 0, 0, 0, 0, 0, 0, 0, 0, 0, 0, 0, 99, 37, 40, 144, 51, 52, 47, 0, 0, 0, 0, 0, 0, 0, 0, 0, 0, 0, 0, 166, 77, 161, 0, 0, 0, 0, 0, 186, 0, 0, 0, 0, 122, 121, 120, 0, 199, 0, 152, 0, 0, 0, 203, 165, 0, 0, 0, 185, 189, 0, 0, 188, 0, 0, 0, 148, 117, 0, 151, 167, 168, 187, 0, 0, 0, 0, 0, 0, 0, 0, 0, 0, 0, 0, 0, 0, 0, 74, 0, 98, 0, 0, 0, 110, 0, 22, 115, 61, 63, 0, 142, 143, 33, 135, 90, 91, 92, 0, 38, 160, 130, 95, 128, 89, 100, 133, 134, 82, 102, 68, 83, 136, 78, 44, 106, 107, 125, 124, 105, 154, 153, 140, 169, 0, 0, 180, 0, 0, 0, 0, 114, 112, 0, 0, 81, 0, 155, 145, 146, 170, 156, 123, 162, 0, 0, 0, 104, 103, 65, 101, 132, 129, 93, 131, 137, 138, 139, 158, 157, 159, 179, 178, 177, 176, 175, 174, 173, 172, 171, 192, 191, 194, 193, 190, 200, 0, 71, 97, 0, 0, 0, 0, 0, 26, 0, 0, 0, 20, 24, 23, 21, 25, 27, 28, 29, 32, 31, 30, 41, 39, 36, 35, 34, 43, 46, 45, 54, 53, 48, 50, 49, 76, 75, 42, 55, 57, 58, 59, 60, 62, 64, 66, 67, 69, 70, 72, 73, 80, 79, 86, 84, 85, 88, 87, 94, 96, 119, 118, 116, 56, 113, 111, 108, 109, 126, 127, 150, 149, 141, 164, 3, 4, 5, 6, 7, 8, 9, 10, 11, 12, 13, 14, 15, 16, 17, 18, 19].getD n 0, fun n => [0, 0, 0, 0, 0, 0, 0, 0, 0, 0, 0, 0, 0, 0, 0, 0, 0, 0, 0, 0, 0, 0, 0, 0, 0, 0, 0, 0, 0, 0, 0, 0, 0, 0, 0, 0, 0, 0, 0, 0, 0, 0, 0, 0, 0, 0, 0, 0, 0, 0, 0, 0, 0, 0, 0, 0, 0, 0, 0, 0, 0, 0, 0, 0, 0, 0, 0, 0, 0, 0, 0, 0, 0, 0, 0, 0, 0, 0, 2, 0, 5, 4, 0, 0, 0, 0, 0, 0, 0, 0, 0, 0, 0, 0, 0, 0, 0, 0, 0, 0, 0, 0, 0, 0, 0, 0, 0, 0, 0, 0, 0, 0, 0, 0, 0, 0, 0, 0, 0, 0, 0, 0, 0, 0, 0, 0, 0, 0, 0, 0, 0, 0, 0, 0, 0, 0, 0, 0, 0, 0, 0, 0, 0, 0, 0, 0, 0, 0, 0, 0, 0, 1, 0, 0, 3, 0, 0, 0, 0, 0, 0, 0, 0, 0, 0, 0, 0, 0, 0, 0, 0, 0, 0, 0, 0, 0, 0, 0, 0, 0, 0, 0, 0, 0, 0, 0, 0, 0, 0, 0, 0, 0, 0, 0, 0, 0, 0, 0, 0, 0, 0, 0, 0, 0, 0, 0, 0, 0, 0, 0, 0, 0, 0, 0, 0, 0, 0, 0, 0, 0, 0, 0, 0, 0, 0, 0, 0, 0, 0, 0, 0, 0, 0, 0, 0, 0, 0, 0, 0, 0, 0, 0, 0, 0, 0, 0, 0, 0, 0, 0, 0, 0, 0, 0, 0, 0, 0, 0, 0, 0, 0, 0, 0, 0, 0, 0, 0, 0, 0, 0, 0, 0, 0, 0, 0, 0, 0, 0, 0, 0, 0, 0, 0, 0, 0, 0, 0, 0, 0, 0, 0, 0, 0, 0, 0].getD n 0⟩
theorem chk_l22_FjoinSumSeries : chkF Tryz.prog names Tryz.f3 l22_FjoinSumSeries = true := by kernel_rfl
theorem chk_l22_FjoinAverageSeries : chkF Tryz.prog names Tryz.f4 l22_FjoinAverageSeries = true := by kernel_rfl
theorem chk_l22_FjoinMinSeries : chkF Tryz.prog names Tryz.f5 l22_FjoinMinSeries = true := by kernel_rfl
theorem chk_l22_FjoinMaxSeries : chkF Tryz.prog names Tryz.f6 l22_FjoinMaxSeries = true := by kernel_rfl
theorem chk_l22_FjoinMedianSeries : chkF Tryz.prog names Tryz.f7 l22_FjoinMedianSeries = true := by kernel_rfl
theorem chk_l22_FjoinRangeOfSeries : chkF Tryz.prog names Tryz.f8 l22_FjoinRangeOfSeries = true := by kernel_rfl
theorem chk_l22_FjoinMultiplySeries : chkF Tryz.prog names Tryz.f9 l22_FjoinMultiplySeries = true := by kernel_rfl
theorem chk_l22_FjoinStddevSeries : chkF Tryz.prog names Tryz.f10 l22_FjoinStddevSeries = true := by kernel_rfl
theorem chk_l22_FjoinCountSeries : chkF Tryz.prog names Tryz.f11 l22_FjoinCountSeries = true := by kernel_rfl
theorem chk_l22_FjoinDiffSeries : chkF Tryz.prog names Tryz.f12 l22_FjoinDiffSeries = true := by kernel_rfl
theorem chk_l22_FjoinPercentile : chkF Tryz.prog names Tryz.f13 l22_FjoinPercentile = true := by kernel_rfl
theorem chk_l22_FjoinAggregate : chkF Tryz.prog names Tryz.f14 l22_FjoinAggregate = true := by kernel_rfl
theorem chk_l22_applied : chkF Tryz.prog names Tryz.f20 l22_applied = true := by kernel_rfl
theorem chk_fjoin_Apply : chkF Tryz.prog names Tryz.f23 fjoin_Apply = true := by kernel_rfl
theorem chk_l22_all : chkF Tryz.prog names Tryz.f32 l22_all = true := by kernel_rfl
theorem chk_l22_heavy : chkF Tryz.prog names Tryz.f21 l22_heavy = true := by kernel_rfl
theorem chk_l22_known : chkF Tryz.prog names Tryz.f24 l22_known = true := by kernel_rfl
theorem chk_l22_long : chkF Tryz.prog names Tryz.f25 l22_long = true := by kernel_rfl
theorem chk_l22_own : chkF Tryz.prog names Tryz.f30 l22_own = true := by kernel_rfl
theorem chk_r22_Apply : chkF Tryz.prog names Tryz.f31 r22_Apply = true := by kernel_rfl
theorem chk_fjoin_joined_series : chkF Tryz.prog names Tryz.f39 fjoin_joined_series = true := by kernel_rfl
theorem chk_agg_Name : chkF Tryz.prog names Tryz.f37 agg_Name = true := by kernel_rfl
theorem chk_dec_Print : chkF Tryz.prog names Tryz.f36 dec_Print = true := by kernel_rfl
theorem chk_fixed_Is : chkF Tryz.prog names Tryz.f38 fixed_Is = true := by kernel_rfl
theorem chk_fjoin_Apply_1 : chkF Tryz.prog names Tryz.f41 fjoin_Apply_1 = true := by kernel_rfl
theorem chk_fjoin_does : chkF Tryz.prog names Tryz.f34 fjoin_does = true := by kernel_rfl
theorem chk_fjoin_join : chkF Tryz.prog names Tryz.f35 fjoin_join = true := by kernel_rfl
theorem chk_series_Label : chkF Tryz.prog names Tryz.f40 series_Label = true := by kernel_rfl
theorem chk_l22_same : chkF Tryz.prog names Tryz.f54 l22_same = true := by kernel_rfl
theorem chk_r18_Join : chkF Tryz.prog names Tryz.f43 r18_Join = true := by kernel_rfl
theorem chk_r18_Own : chkF Tryz.prog names Tryz.f47 r18_Own = true := by kernel_rfl
theorem chk_r18_Label : chkF Tryz.prog names Tryz.f52 r18_Label = true := by kernel_rfl
theorem chk_r2_Print : chkF Tryz.prog names Tryz.f50 r2_Print = true := by kernel_rfl
theorem chk_r22_at : chkF Tryz.prog names Tryz.f53 r22_at = true := by kernel_rfl
theorem chk_r22_names : chkF Tryz.prog names Tryz.f49 r22_names = true := by kernel_rfl
theorem chk_r22_one : chkF Tryz.prog names Tryz.f48 r22_one = true := by kernel_rfl
theorem chk_r6_Name : chkF Tryz.prog names Tryz.f51 r6_Name = true := by kernel_rfl
theorem chk_fjoin_joined_many : chkF Tryz.prog names Tryz.f76 fjoin_joined_many = true := by kernel_rfl
theorem chk_dec_Digits : chkF Tryz.prog names Tryz.f74 dec_Digits = true := by kernel_rfl
theorem chk_strings_TrimRight : chkF Tryz.prog names Tryz.f75 strings_TrimRight = true := by kernel_rfl
theorem chk_fjoin_joined_known : chkF Tryz.prog names Tryz.f42 fjoin_joined_known = true := by kernel_rfl
theorem chk_fjoin_place_less : chkF Tryz.prog names Tryz.f69 fjoin_place_less = true := by kernel_rfl
theorem chk_fjoin_place_product : chkF Tryz.prog names Tryz.f66 fjoin_place_product = true := by kernel_rfl
theorem chk_fjoin_does_1 : chkF Tryz.prog names Tryz.f55 fjoin_does_1 = true := by kernel_rfl
theorem chk_fjoin_does_10 : chkF Tryz.prog names Tryz.f72 fjoin_does_10 = true := by kernel_rfl
theorem chk_fjoin_does_2 : chkF Tryz.prog names Tryz.f57 fjoin_does_2 = true := by kernel_rfl
theorem chk_fjoin_does_3 : chkF Tryz.prog names Tryz.f58 fjoin_does_3 = true := by kernel_rfl
theorem chk_fjoin_does_4 : chkF Tryz.prog names Tryz.f59 fjoin_does_4 = true := by kernel_rfl
theorem chk_fjoin_does_5 : chkF Tryz.prog names Tryz.f60 fjoin_does_5 = true := by kernel_rfl
theorem chk_fjoin_does_6 : chkF Tryz.prog names Tryz.f62 fjoin_does_6 = true := by kernel_rfl
theorem chk_fjoin_does_7 : chkF Tryz.prog names Tryz.f64 fjoin_does_7 = true := by kernel_rfl
theorem chk_fjoin_does_8 : chkF Tryz.prog names Tryz.f67 fjoin_does_8 = true := by kernel_rfl
theorem chk_fjoin_does_9 : chkF Tryz.prog names Tryz.f70 fjoin_does_9 = true := by kernel_rfl
theorem chk_series_Join : chkF Tryz.prog names Tryz.f73 series_Join = true := by kernel_rfl
theorem chk_r18_Same : chkF Tryz.prog names Tryz.f99 r18_Same = true := by kernel_rfl
theorem chk_r18_End : chkF Tryz.prog names Tryz.f79 r18_End = true := by kernel_rfl
theorem chk_r18_Fit : chkF Tryz.prog names Tryz.f81 r18_Fit = true := by kernel_rfl
theorem chk_r18_Is : chkF Tryz.prog names Tryz.f22 r18_Is = true := by kernel_rfl
theorem chk_r18_gcd : chkF Tryz.prog names Tryz.f80 r18_gcd = true := by kernel_rfl
theorem chk_r1_Known : chkF Tryz.prog names Tryz.f82 r1_Known = true := by kernel_rfl
theorem chk_r2_Digits : chkF Tryz.prog names Tryz.f98 r2_Digits = true := by kernel_rfl
theorem chk_r1_Int : chkF Tryz.prog names Tryz.f95 r1_Int = true := by kernel_rfl
theorem chk_r1_Sub : chkF Tryz.prog names Tryz.f93 r1_Sub = true := by kernel_rfl
theorem chk_r21_Deviation : chkF Tryz.prog names Tryz.f92 r21_Deviation = true := by kernel_rfl
theorem chk_r21_Median : chkF Tryz.prog names Tryz.f91 r21_Median = true := by kernel_rfl
theorem chk_r21_Rank : chkF Tryz.prog names Tryz.f97 r21_Rank = true := by kernel_rfl
theorem chk_r22_less : chkF Tryz.prog names Tryz.f96 r22_less = true := by kernel_rfl
theorem chk_r22_times : chkF Tryz.prog names Tryz.f94 r22_times = true := by kernel_rfl
theorem chk_r6_Known : chkF Tryz.prog names Tryz.f89 r6_Known = true := by kernel_rfl
theorem chk_r6_Of : chkF Tryz.prog names Tryz.f90 r6_Of = true := by kernel_rfl
theorem chk_strings_makeASCIISet : chkF Tryz.prog names Tryz.f117 strings_makeASCIISet = true := by kernel_rfl
theorem chk_strings_trimRightASCII : chkF Tryz.prog names Tryz.f118 strings_trimRightASCII = true := by kernel_rfl
theorem chk_strings_trimRightByte : chkF Tryz.prog names Tryz.f116 strings_trimRightByte = true := by kernel_rfl
theorem chk_strings_trimRightUnicode : chkF Tryz.prog names Tryz.f119 strings_trimRightUnicode = true := by kernel_rfl
theorem chk_agg_Known : chkF Tryz.prog names Tryz.f78 agg_Known = true := by kernel_rfl
theorem chk_fixed_Sub : chkF Tryz.prog names Tryz.f65 fixed_Sub = true := by kernel_rfl
theorem chk_fixed_Int : chkF Tryz.prog names Tryz.f68 fixed_Int = true := by kernel_rfl
theorem chk_fixed_Mul : chkF Tryz.prog names Tryz.f103 fixed_Mul = true := by kernel_rfl
theorem chk_fjoin_place_of : chkF Tryz.prog names Tryz.f56 fjoin_place_of = true := by kernel_rfl
theorem chk_fwin_Median : chkF Tryz.prog names Tryz.f61 fwin_Median = true := by kernel_rfl
theorem chk_fwin_Deviation : chkF Tryz.prog names Tryz.f63 fwin_Deviation = true := by kernel_rfl
theorem chk_fwin_Rank : chkF Tryz.prog names Tryz.f71 fwin_Rank = true := by kernel_rfl
theorem chk_series_End : chkF Tryz.prog names Tryz.f112 series_End = true := by kernel_rfl
theorem chk_series_Fit : chkF Tryz.prog names Tryz.f114 series_Fit = true := by kernel_rfl
theorem chk_series_Join_1 : chkF Tryz.prog names Tryz.f109 series_Join_1 = true := by kernel_rfl
theorem chk_series_common : chkF Tryz.prog names Tryz.f111 series_common = true := by kernel_rfl
theorem chk_series_up : chkF Tryz.prog names Tryz.f113 series_up = true := by kernel_rfl
theorem chk_slices_ContainsFunc_api_Series_api_Series : chkF Tryz.prog names Tryz.f108 slices_ContainsFunc_api_Series_api_Series = true := by kernel_rfl
theorem chk_r18_Cons : chkF Tryz.prog names Tryz.f123 r18_Cons = true := by kernel_rfl
theorem chk_r1_Is : chkF Tryz.prog names Tryz.f33 r1_Is = true := by kernel_rfl
theorem chk_r2_plain : chkF Tryz.prog names Tryz.f135 r2_plain = true := by kernel_rfl
theorem chk_r1_Of : chkF Tryz.prog names Tryz.f134 r1_Of = true := by kernel_rfl
theorem chk_r1_plus : chkF Tryz.prog names Tryz.f133 r1_plus = true := by kernel_rfl
theorem chk_r1_two : chkF Tryz.prog names Tryz.f44 r1_two = true := by kernel_rfl
theorem chk_r1_Mul : chkF Tryz.prog names Tryz.f129 r1_Mul = true := by kernel_rfl
theorem chk_r1_Sqrt : chkF Tryz.prog names Tryz.f132 r1_Sqrt = true := by kernel_rfl
theorem chk_r1_Add : chkF Tryz.prog names Tryz.f130 r1_Add = true := by kernel_rfl
theorem chk_r1_Div : chkF Tryz.prog names Tryz.f128 r1_Div = true := by kernel_rfl
theorem chk_r21_sorted : chkF Tryz.prog names Tryz.f131 r21_sorted = true := by kernel_rfl
theorem chk_strings_asciiSet_contains : chkF Tryz.prog names Tryz.f148 strings_asciiSet_contains = true := by kernel_rfl
theorem chk_strings_ContainsRune : chkF Tryz.prog names Tryz.f150 strings_ContainsRune = true := by kernel_rfl
theorem chk_unicode_utf8_DecodeLastRuneInString : chkF Tryz.prog names Tryz.f149 unicode_utf8_DecodeLastRuneInString = true := by kernel_rfl
theorem chk_fixed_Of : chkF Tryz.prog names Tryz.f107 fixed_Of = true := by kernel_rfl
theorem chk_fixed_known : chkF Tryz.prog names Tryz.f105 fixed_known = true := by kernel_rfl
theorem chk_fixed_sum : chkF Tryz.prog names Tryz.f106 fixed_sum = true := by kernel_rfl
theorem chk_fixed_MulDiv : chkF Tryz.prog names Tryz.f125 fixed_MulDiv = true := by kernel_rfl
theorem chk_fixed_val : chkF Tryz.prog names Tryz.f124 fixed_val = true := by kernel_rfl
theorem chk_agg_Of : chkF Tryz.prog names Tryz.f100 agg_Of = true := by kernel_rfl
theorem chk_fixed_Add : chkF Tryz.prog names Tryz.f102 fixed_Add = true := by kernel_rfl
theorem chk_fixed_Div : chkF Tryz.prog names Tryz.f83 fixed_Div = true := by kernel_rfl
theorem chk_fwin_sorted : chkF Tryz.prog names Tryz.f101 fwin_sorted = true := by kernel_rfl
theorem chk_fixed_Sqrt : chkF Tryz.prog names Tryz.f104 fixed_Sqrt = true := by kernel_rfl
theorem chk_series_Is : chkF Tryz.prog names Tryz.f110 series_Is = true := by kernel_rfl
theorem chk_series_Cons : chkF Tryz.prog names Tryz.f145 series_Cons = true := by kernel_rfl
theorem chk_series_Own : chkF Tryz.prog names Tryz.f144 series_Own = true := by kernel_rfl
theorem chk_series_within : chkF Tryz.prog names Tryz.f146 series_within = true := by kernel_rfl
theorem chk_slices_IndexFunc_api_Series_api_Series : chkF Tryz.prog names Tryz.f141 slices_IndexFunc_api_Series_api_Series = true := by kernel_rfl
theorem chk_r1_MulDiv : chkF Tryz.prog names Tryz.f155 r1_MulDiv = true := by kernel_rfl
theorem chk_r1_times : chkF Tryz.prog names Tryz.f156 r1_times = true := by kernel_rfl
theorem chk_strings_IndexRune : chkF Tryz.prog names Tryz.f166 strings_IndexRune = true := by kernel_rfl
theorem chk_unicode_utf8_DecodeRuneInString : chkF Tryz.prog names Tryz.f165 unicode_utf8_DecodeRuneInString = true := by kernel_rfl
theorem chk_unicode_utf8_RuneStart : chkF Tryz.prog names Tryz.f164 unicode_utf8_RuneStart = true := by kernel_rfl
theorem chk_fixed_size : chkF Tryz.prog names Tryz.f153 fixed_size = true := by kernel_rfl
theorem chk_math_bits_Div64 : chkF Tryz.prog names Tryz.f154 math_bits_Div64 = true := by kernel_rfl
theorem chk_math_bits_Mul64 : chkF Tryz.prog names Tryz.f140 math_bits_Mul64 = true := by kernel_rfl
theorem chk_fixed_Less : chkF Tryz.prog names Tryz.f136 fixed_Less = true := by kernel_rfl
theorem chk_fwin_sorted_1 : chkF Tryz.prog names Tryz.f138 fwin_sorted_1 = true := by kernel_rfl
theorem chk_series_Is_1 : chkF Tryz.prog names Tryz.f143 series_Is_1 = true := by kernel_rfl
theorem chk_slices_ContainsFunc_api_Val_api_Val : chkF Tryz.prog names Tryz.f142 slices_ContainsFunc_api_Val_api_Val = true := by kernel_rfl
theorem chk_series_within_1 : chkF Tryz.prog names Tryz.f162 series_within_1 = true := by kernel_rfl
theorem chk_r1_size : chkF Tryz.prog names Tryz.f170 r1_size = true := by kernel_rfl
theorem chk_internal_bytealg_Cutover : chkF Tryz.prog names Tryz.f188 internal_bytealg_Cutover = true := by kernel_rfl
theorem chk_strings_IndexByte : chkF Tryz.prog names Tryz.f186 strings_IndexByte = true := by kernel_rfl
theorem chk_unicode_utf8_ValidRune : chkF Tryz.prog names Tryz.f187 unicode_utf8_ValidRune = true := by kernel_rfl
theorem chk_unicode_utf8_decodeRuneInStringSlow : chkF Tryz.prog names Tryz.f185 unicode_utf8_decodeRuneInStringSlow = true := by kernel_rfl
theorem chk_math_bits_LeadingZeros64 : chkF Tryz.prog names Tryz.f169 math_bits_LeadingZeros64 = true := by kernel_rfl
theorem chk_cmp_Compare_int : chkF Tryz.prog names Tryz.f139 cmp_Compare_int = true := by kernel_rfl
theorem chk_slices_IndexFunc_api_Val_api_Val : chkF Tryz.prog names Tryz.f160 slices_IndexFunc_api_Val_api_Val = true := by kernel_rfl
theorem chk_internal_stringslite_IndexByte : chkF Tryz.prog names Tryz.f199 internal_stringslite_IndexByte = true := by kernel_rfl
theorem chk_math_bits_Len64 : chkF Tryz.prog names Tryz.f180 math_bits_Len64 = true := by kernel_rfl
theorem chk_cmp_isNaN_int : chkF Tryz.prog names Tryz.f159 cmp_isNaN_int = true := by kernel_rfl
theorem row_internal_bytealg_IndexByteString : RowFor Tryz.prog 203 Go.Extern.BytealgIndexByte.indexByte := ⟨Tryz.f203, by kernel_rfl, by kernel_rfl, by kernel_rfl, by kernel_rfl, by kernel_rfl⟩
theorem row_strings_Join : JoinOk Tryz.prog 77 := ⟨Ab.enters_of Tryz.func77 (by kernel_rfl) (by kernel_rfl), fun a c sep w => Any.strings_Join_none Tryz.lays156 Tryz.Builder_Extra_156 a c sep w, fun bk o c xs sep w h1 h2 h3 h4 h5 => Any.strings_Join Tryz.lays156 Tryz.Builder_Extra_156 bk o c xs sep w h1 h2 h3 h4 h5⟩
theorem row_strconv_Itoa : ItoaOk Tryz.prog 115 := ⟨Ab.enters_of Tryz.func115 (by kernel_rfl) (by kernel_rfl), fun n h0 h1 w ht => Any.strconv_Itoa Tryz.laysM171 n h0 h1 w ht⟩
theorem row_slices_Clone_api_Val_api_Val : CloneOk Tryz.prog names 49 2 slices_Clone_api_Val_api_Val := ⟨by kernel_rfl, ⟨_, Tryz.func161, by kernel_rfl⟩, by decide, clone_nil, clone_mem⟩
theorem row_slices_SortFunc_api_Val_api_Val : SortOk Tryz.prog 137 138 := Tryz.sortOk
set_option maxHeartbeats 8000000 in
set_option maxRecDepth 100000 in
theorem known : Known Γ names Tryz.prog where
  mixed := by kernel_rfl
  code f fn h := by
    simp only [Γ] at h
    split at h
    · cases h; exact ⟨_, Tryz.func3, chk_l22_FjoinSumSeries⟩
    · cases h; exact ⟨_, Tryz.func4, chk_l22_FjoinAverageSeries⟩
    · cases h; exact ⟨_, Tryz.func5, chk_l22_FjoinMinSeries⟩
    · cases h; exact ⟨_, Tryz.func6, chk_l22_FjoinMaxSeries⟩
    · cases h; exact ⟨_, Tryz.func7, chk_l22_FjoinMedianSeries⟩
    · cases h; exact ⟨_, Tryz.func8, chk_l22_FjoinRangeOfSeries⟩
    · cases h; exact ⟨_, Tryz.func9, chk_l22_FjoinMultiplySeries⟩
    · cases h; exact ⟨_, Tryz.func10, chk_l22_FjoinStddevSeries⟩
    · cases h; exact ⟨_, Tryz.func11, chk_l22_FjoinCountSeries⟩
    · cases h; exact ⟨_, Tryz.func12, chk_l22_FjoinDiffSeries⟩
    · cases h; exact ⟨_, Tryz.func13, chk_l22_FjoinPercentile⟩
    · cases h; exact ⟨_, Tryz.func14, chk_l22_FjoinAggregate⟩
    · cases h; exact ⟨_, Tryz.func20, chk_l22_applied⟩
    · cases h; exact ⟨_, Tryz.func23, chk_fjoin_Apply⟩
    · cases h; exact ⟨_, Tryz.func32, chk_l22_all⟩
    · cases h; exact ⟨_, Tryz.func21, chk_l22_heavy⟩
    · cases h; exact ⟨_, Tryz.func24, chk_l22_known⟩
    · cases h; exact ⟨_, Tryz.func25, chk_l22_long⟩
    · cases h; exact ⟨_, Tryz.func30, chk_l22_own⟩
    · cases h; exact ⟨_, Tryz.func31, chk_r22_Apply⟩
    · cases h; exact ⟨_, Tryz.func39, chk_fjoin_joined_series⟩
    · cases h; exact ⟨_, Tryz.func37, chk_agg_Name⟩
    · cases h; exact ⟨_, Tryz.func36, chk_dec_Print⟩
    · cases h; exact ⟨_, Tryz.func38, chk_fixed_Is⟩
    · cases h; exact ⟨_, Tryz.func41, chk_fjoin_Apply_1⟩
    · cases h; exact ⟨_, Tryz.func34, chk_fjoin_does⟩
    · cases h; exact ⟨_, Tryz.func35, chk_fjoin_join⟩
    · cases h; exact ⟨_, Tryz.func40, chk_series_Label⟩
    · cases h; exact ⟨_, Tryz.func54, chk_l22_same⟩
    · cases h; exact ⟨_, Tryz.func43, chk_r18_Join⟩
    · cases h; exact ⟨_, Tryz.func47, chk_r18_Own⟩
    · cases h; exact ⟨_, Tryz.func52, chk_r18_Label⟩
    · cases h; exact ⟨_, Tryz.func50, chk_r2_Print⟩
    · cases h; exact ⟨_, Tryz.func53, chk_r22_at⟩
    · cases h; exact ⟨_, Tryz.func49, chk_r22_names⟩
    · cases h; exact ⟨_, Tryz.func48, chk_r22_one⟩
    · cases h; exact ⟨_, Tryz.func51, chk_r6_Name⟩
    · cases h; exact ⟨_, Tryz.func76, chk_fjoin_joined_many⟩
    · cases h; exact ⟨_, Tryz.func74, chk_dec_Digits⟩
    · cases h; exact ⟨_, Tryz.func75, chk_strings_TrimRight⟩
    · cases h; exact ⟨_, Tryz.func42, chk_fjoin_joined_known⟩
    · cases h; exact ⟨_, Tryz.func69, chk_fjoin_place_less⟩
    · cases h; exact ⟨_, Tryz.func66, chk_fjoin_place_product⟩
    · cases h; exact ⟨_, Tryz.func55, chk_fjoin_does_1⟩
    · cases h; exact ⟨_, Tryz.func72, chk_fjoin_does_10⟩
    · cases h; exact ⟨_, Tryz.func57, chk_fjoin_does_2⟩
    · cases h; exact ⟨_, Tryz.func58, chk_fjoin_does_3⟩
    · cases h; exact ⟨_, Tryz.func59, chk_fjoin_does_4⟩
    · cases h; exact ⟨_, Tryz.func60, chk_fjoin_does_5⟩
    · cases h; exact ⟨_, Tryz.func62, chk_fjoin_does_6⟩
    · cases h; exact ⟨_, Tryz.func64, chk_fjoin_does_7⟩
    · cases h; exact ⟨_, Tryz.func67, chk_fjoin_does_8⟩
    · cases h; exact ⟨_, Tryz.func70, chk_fjoin_does_9⟩
    · cases h; exact ⟨_, Tryz.func73, chk_series_Join⟩
    · cases h
    · cases h; exact ⟨_, Tryz.func99, chk_r18_Same⟩
    · cases h; exact ⟨_, Tryz.func79, chk_r18_End⟩
    · cases h; exact ⟨_, Tryz.func81, chk_r18_Fit⟩
    · cases h; exact ⟨_, Tryz.func22, chk_r18_Is⟩
    · cases h; exact ⟨_, Tryz.func80, chk_r18_gcd⟩
    · cases h; exact ⟨_, Tryz.func82, chk_r1_Known⟩
    · cases h; exact ⟨_, Tryz.func98, chk_r2_Digits⟩
    · cases h; exact ⟨_, Tryz.func95, chk_r1_Int⟩
    · cases h; exact ⟨_, Tryz.func93, chk_r1_Sub⟩
    · cases h; exact ⟨_, Tryz.func92, chk_r21_Deviation⟩
    · cases h; exact ⟨_, Tryz.func91, chk_r21_Median⟩
    · cases h; exact ⟨_, Tryz.func97, chk_r21_Rank⟩
    · cases h; exact ⟨_, Tryz.func96, chk_r22_less⟩
    · cases h; exact ⟨_, Tryz.func94, chk_r22_times⟩
    · cases h; exact ⟨_, Tryz.func89, chk_r6_Known⟩
    · cases h; exact ⟨_, Tryz.func90, chk_r6_Of⟩
    · cases h
    · cases h; exact ⟨_, Tryz.func117, chk_strings_makeASCIISet⟩
    · cases h; exact ⟨_, Tryz.func118, chk_strings_trimRightASCII⟩
    · cases h; exact ⟨_, Tryz.func116, chk_strings_trimRightByte⟩
    · cases h; exact ⟨_, Tryz.func119, chk_strings_trimRightUnicode⟩
    · cases h; exact ⟨_, Tryz.func78, chk_agg_Known⟩
    · cases h; exact ⟨_, Tryz.func65, chk_fixed_Sub⟩
    · cases h; exact ⟨_, Tryz.func68, chk_fixed_Int⟩
    · cases h; exact ⟨_, Tryz.func103, chk_fixed_Mul⟩
    · cases h; exact ⟨_, Tryz.func56, chk_fjoin_place_of⟩
    · cases h; exact ⟨_, Tryz.func61, chk_fwin_Median⟩
    · cases h; exact ⟨_, Tryz.func63, chk_fwin_Deviation⟩
    · cases h; exact ⟨_, Tryz.func71, chk_fwin_Rank⟩
    · cases h; exact ⟨_, Tryz.func112, chk_series_End⟩
    · cases h; exact ⟨_, Tryz.func114, chk_series_Fit⟩
    · cases h; exact ⟨_, Tryz.func109, chk_series_Join_1⟩
    · cases h; exact ⟨_, Tryz.func111, chk_series_common⟩
    · cases h; exact ⟨_, Tryz.func113, chk_series_up⟩
    · cases h; exact ⟨_, Tryz.func108, chk_slices_ContainsFunc_api_Series_api_Series⟩
    · cases h; exact ⟨_, Tryz.func123, chk_r18_Cons⟩
    · cases h; exact ⟨_, Tryz.func33, chk_r1_Is⟩
    · cases h; exact ⟨_, Tryz.func135, chk_r2_plain⟩
    · cases h; exact ⟨_, Tryz.func134, chk_r1_Of⟩
    · cases h; exact ⟨_, Tryz.func133, chk_r1_plus⟩
    · cases h; exact ⟨_, Tryz.func44, chk_r1_two⟩
    · cases h; exact ⟨_, Tryz.func129, chk_r1_Mul⟩
    · cases h; exact ⟨_, Tryz.func132, chk_r1_Sqrt⟩
    · cases h; exact ⟨_, Tryz.func130, chk_r1_Add⟩
    · cases h; exact ⟨_, Tryz.func128, chk_r1_Div⟩
    · cases h; exact ⟨_, Tryz.func131, chk_r21_sorted⟩
    · cases h; exact ⟨_, Tryz.func148, chk_strings_asciiSet_contains⟩
    · cases h; exact ⟨_, Tryz.func150, chk_strings_ContainsRune⟩
    · cases h; exact ⟨_, Tryz.func149, chk_unicode_utf8_DecodeLastRuneInString⟩
    · cases h; exact ⟨_, Tryz.func107, chk_fixed_Of⟩
    · cases h; exact ⟨_, Tryz.func105, chk_fixed_known⟩
    · cases h; exact ⟨_, Tryz.func106, chk_fixed_sum⟩
    · cases h; exact ⟨_, Tryz.func125, chk_fixed_MulDiv⟩
    · cases h; exact ⟨_, Tryz.func124, chk_fixed_val⟩
    · cases h; exact ⟨_, Tryz.func100, chk_agg_Of⟩
    · cases h; exact ⟨_, Tryz.func102, chk_fixed_Add⟩
    · cases h; exact ⟨_, Tryz.func83, chk_fixed_Div⟩
    · cases h; exact ⟨_, Tryz.func101, chk_fwin_sorted⟩
    · cases h; exact ⟨_, Tryz.func104, chk_fixed_Sqrt⟩
    · cases h; exact ⟨_, Tryz.func110, chk_series_Is⟩
    · cases h; exact ⟨_, Tryz.func145, chk_series_Cons⟩
    · cases h; exact ⟨_, Tryz.func144, chk_series_Own⟩
    · cases h; exact ⟨_, Tryz.func146, chk_series_within⟩
    · cases h; exact ⟨_, Tryz.func141, chk_slices_IndexFunc_api_Series_api_Series⟩
    · cases h; exact ⟨_, Tryz.func155, chk_r1_MulDiv⟩
    · cases h; exact ⟨_, Tryz.func156, chk_r1_times⟩
    · cases h; exact ⟨_, Tryz.func166, chk_strings_IndexRune⟩
    · cases h; exact ⟨_, Tryz.func165, chk_unicode_utf8_DecodeRuneInString⟩
    · cases h; exact ⟨_, Tryz.func164, chk_unicode_utf8_RuneStart⟩
    · cases h; exact ⟨_, Tryz.func153, chk_fixed_size⟩
    · cases h; exact ⟨_, Tryz.func154, chk_math_bits_Div64⟩
    · cases h; exact ⟨_, Tryz.func140, chk_math_bits_Mul64⟩
    · cases h; exact ⟨_, Tryz.func136, chk_fixed_Less⟩
    · cases h; exact ⟨_, Tryz.func138, chk_fwin_sorted_1⟩
    · cases h
    · cases h; exact ⟨_, Tryz.func143, chk_series_Is_1⟩
    · cases h; exact ⟨_, Tryz.func142, chk_slices_ContainsFunc_api_Val_api_Val⟩
    · cases h
    · cases h; exact ⟨_, Tryz.func162, chk_series_within_1⟩
    · cases h; exact ⟨_, Tryz.func170, chk_r1_size⟩
    · cases h; exact ⟨_, Tryz.func188, chk_internal_bytealg_Cutover⟩
    · cases h; exact ⟨_, Tryz.func186, chk_strings_IndexByte⟩
    · cases h; exact ⟨_, Tryz.func187, chk_unicode_utf8_ValidRune⟩
    · cases h; exact ⟨_, Tryz.func185, chk_unicode_utf8_decodeRuneInStringSlow⟩
    · cases h; exact ⟨_, Tryz.func169, chk_math_bits_LeadingZeros64⟩
    · cases h; exact ⟨_, Tryz.func139, chk_cmp_Compare_int⟩
    · cases h; exact ⟨_, Tryz.func160, chk_slices_IndexFunc_api_Val_api_Val⟩
    · cases h; exact ⟨_, Tryz.func199, chk_internal_stringslite_IndexByte⟩
    · cases h; exact ⟨_, Tryz.func180, chk_math_bits_Len64⟩
    · cases h; exact ⟨_, Tryz.func159, chk_cmp_isNaN_int⟩
    · cases h
    · cases h
  prim f g h := by
    simp only [Γ] at h
    split at h
    · cases h
    · cases h
    · cases h
    · cases h
    · cases h
    · cases h
    · cases h
    · cases h
    · cases h
    · cases h
    · cases h
    · cases h
    · cases h
    · cases h
    · cases h
    · cases h
    · cases h
    · cases h
    · cases h
    · cases h
    · cases h
    · cases h
    · cases h
    · cases h
    · cases h
    · cases h
    · cases h
    · cases h
    · cases h
    · cases h
    · cases h
    · cases h
    · cases h
    · cases h
    · cases h
    · cases h
    · cases h
    · cases h
    · cases h
    · cases h
    · cases h
    · cases h
    · cases h
    · cases h
    · cases h
    · cases h
    · cases h
    · cases h
    · cases h
    · cases h
    · cases h
    · cases h
    · cases h
    · cases h
    · cases h; exact prim_join row_strings_Join
    · cases h
    · cases h
    · cases h
    · cases h
    · cases h
    · cases h
    · cases h
    · cases h
    · cases h
    · cases h
    · cases h
    · cases h
    · cases h
    · cases h
    · cases h
    · cases h
    · cases h; exact prim_itoa (gv := 154) (by kernel_rfl) (by kernel_rfl) row_strconv_Itoa
    · cases h
    · cases h
    · cases h
    · cases h
    · cases h
    · cases h
    · cases h
    · cases h
    · cases h
    · cases h
    · cases h
    · cases h
    · cases h
    · cases h
    · cases h
    · cases h
    · cases h
    · cases h
    · cases h
    · cases h
    · cases h
    · cases h
    · cases h
    · cases h
    · cases h
    · cases h
    · cases h
    · cases h
    · cases h
    · cases h
    · cases h
    · cases h
    · cases h
    · cases h
    · cases h
    · cases h
    · cases h
    · cases h
    · cases h
    · cases h
    · cases h
    · cases h
    · cases h
    · cases h
    · cases h
    · cases h
    · cases h
    · cases h
    · cases h
    · cases h
    · cases h
    · cases h
    · cases h
    · cases h
    · cases h
    · cases h
    · cases h
    · cases h
    · cases h
    · cases h
    · cases h
    · cases h
    · cases h
    · cases h
    · cases h
    · cases h
    · cases h
    · cases h
    · cases h
    · cases h
    · cases h
    · cases h
    · cases h
    · cases h; exact prim_indexByte row_internal_bytealg_IndexByteString
    · cases h
  fresh f g h := by
    simp only [Γ] at h
    split at h
    · cases h
    · cases h
    · cases h
    · cases h
    · cases h
    · cases h
    · cases h
    · cases h
    · cases h
    · cases h
    · cases h
    · cases h
    · cases h
    · cases h
    · cases h
    · cases h
    · cases h
    · cases h
    · cases h
    · cases h
    · cases h
    · cases h
    · cases h
    · cases h
    · cases h
    · cases h
    · cases h
    · cases h
    · cases h
    · cases h
    · cases h
    · cases h
    · cases h
    · cases h
    · cases h
    · cases h
    · cases h
    · cases h
    · cases h
    · cases h
    · cases h
    · cases h
    · cases h
    · cases h
    · cases h
    · cases h
    · cases h
    · cases h
    · cases h
    · cases h
    · cases h
    · cases h
    · cases h
    · cases h
    · cases h
    · cases h
    · cases h
    · cases h
    · cases h
    · cases h
    · cases h
    · cases h
    · cases h
    · cases h
    · cases h
    · cases h
    · cases h
    · cases h
    · cases h
    · cases h
    · cases h
    · cases h
    · cases h
    · cases h
    · cases h
    · cases h
    · cases h
    · cases h
    · cases h
    · cases h
    · cases h
    · cases h
    · cases h
    · cases h
    · cases h
    · cases h
    · cases h
    · cases h
    · cases h
    · cases h
    · cases h
    · cases h
    · cases h
    · cases h
    · cases h
    · cases h
    · cases h
    · cases h
    · cases h
    · cases h
    · cases h
    · cases h
    · cases h
    · cases h
    · cases h
    · cases h
    · cases h
    · cases h
    · cases h
    · cases h
    · cases h
    · cases h
    · cases h
    · cases h
    · cases h
    · cases h
    · cases h
    · cases h
    · cases h
    · cases h
    · cases h
    · cases h
    · cases h
    · cases h
    · cases h
    · cases h
    · cases h
    · cases h
    · cases h
    · cases h
    · cases h
    · cases h
    · cases h; exact fresh_clone row_slices_Clone_api_Val_api_Val
    · cases h
    · cases h
    · cases h
    · cases h
    · cases h
    · cases h
    · cases h
    · cases h
    · cases h
    · cases h
    · cases h
    · cases h
    · cases h
    · cases h
  upd f g h := by
    simp only [Γ] at h
    split at h
    · cases h
    · cases h
    · cases h
    · cases h
    · cases h
    · cases h
    · cases h
    · cases h
    · cases h
    · cases h
    · cases h
    · cases h
    · cases h
    · cases h
    · cases h
    · cases h
    · cases h
    · cases h
    · cases h
    · cases h
    · cases h
    · cases h
    · cases h
    · cases h
    · cases h
    · cases h
    · cases h
    · cases h
    · cases h
    · cases h
    · cases h
    · cases h
    · cases h
    · cases h
    · cases h
    · cases h
    · cases h
    · cases h
    · cases h
    · cases h
    · cases h
    · cases h
    · cases h
    · cases h
    · cases h
    · cases h
    · cases h
    · cases h
    · cases h
    · cases h
    · cases h
    · cases h
    · cases h
    · cases h
    · cases h
    · cases h
    · cases h
    · cases h
    · cases h
    · cases h
    · cases h
    · cases h
    · cases h
    · cases h
    · cases h
    · cases h
    · cases h
    · cases h
    · cases h
    · cases h
    · cases h
    · cases h
    · cases h
    · cases h
    · cases h
    · cases h
    · cases h
    · cases h
    · cases h
    · cases h
    · cases h
    · cases h
    · cases h
    · cases h
    · cases h
    · cases h
    · cases h
    · cases h
    · cases h
    · cases h
    · cases h
    · cases h
    · cases h
    · cases h
    · cases h
    · cases h
    · cases h
    · cases h
    · cases h
    · cases h
    · cases h
    · cases h
    · cases h
    · cases h
    · cases h
    · cases h
    · cases h
    · cases h
    · cases h
    · cases h
    · cases h
    · cases h
    · cases h
    · cases h
    · cases h
    · cases h
    · cases h
    · cases h
    · cases h
    · cases h
    · cases h
    · cases h
    · cases h
    · cases h
    · cases h
    · cases h
    · cases h
    · cases h
    · cases h
    · cases h; exact upd_sort row_slices_SortFunc_api_Val_api_Val
    · cases h
    · cases h
    · cases h
    · cases h
    · cases h
    · cases h
    · cases h
    · cases h
    · cases h
    · cases h
    · cases h
    · cases h
    · cases h
    · cases h
    · cases h
    · cases h
    · cases h
end Ab
