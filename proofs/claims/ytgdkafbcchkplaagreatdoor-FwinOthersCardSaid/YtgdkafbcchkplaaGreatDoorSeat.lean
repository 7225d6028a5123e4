import Derived.Test.YtgdkafbcchkplaaGreatDoorCode
import Derived.Test.YtgdkafbcchkplaaGreatDoorLClone
import Derived.Test.YtgdkafbcchkplaaGreatDoorSortSeat
import Derived.Test.YtgdkafbcchkplaaGreatDoorShelf
import Derived.Test.YtgdkafbcchkplaaGreatDoorAbZ3
import Derived.Test.YtgdkafbcchkplaaGreatDoorPSer
import Derived.KernelRfl
import Derived.Test.YtgdkafbcchkplaaGreatDoorProg
namespace Ab
open Go Go.Proofs
def names : Names := ⟨fun n => [0, 0, 0, 0, 1, 0, 0, 0, 0, 0, 0, 0, 0, 0, 0, 0, 0, 0, 0, 0, 0, 0, 0, 0, 0, 0, 0, 0, 59, 77, 53, 98, 82, 57, 25, 0, 0, 0, 0, 0, 0, 0, 0, 0, 0, 0, 0, 0, 89, 118, 0, 0, 0, 0, 0, 0, 0, 0, 0, 0, 105, 104, 103, 0, 0, 0, 121, 0, 0, 0, 0, 0, 0, 0, 0, 0, 0, 0, 0, 0, 0, 0, 0, 0, 0, 0, 120, 128, 129, 0, 0, 0, 0, 0, 0, 0, 0, 0, 13, 28, 20, 27, 26, 24, 55, 54, 56, 58, 4, 6, 7, 52, 51, 48, 90, 14, 16, 85, 87, 88, 76, 91, 43, 15, 17, 86, 72, 102, 35, 36, 34, 42, 38, 71, 70, 47, 31, 32, 30, 73, 37, 68, 67, 66, 65, 64, 63, 96, 95, 74, 117, 0, 0, 116, 0, 21, 50, 49, 81, 80, 79, 78, 84, 83, 69, 99, 100, 97, 75, 101, 119, 3, 10, 11, 41, 40, 39, 29, 46, 45, 44, 33, 60, 61, 62, 93, 92, 94, 115, 114, 113, 112, 111, 110, 109, 108, 107, 125, 124, 127, 126, 123, 134, 8, 18, 19, 22, 23, 5, 9, 12].getD n 0, fun n => [0, 0, 0, 0, 0, 0, 0, 0, 0, 0, 0, 0, 0, 0, 0, 0, 0, 0, 0, 0, 0, 0, 0, 0, 0, 0, 0, 0, 0, 0, 0, 0, 0, 0, 0, 0, 0, 0, 0, 0, 0, 0, 0, 0, 0, 0, 0, 0, 0, 0, 0, 0, 0, 0, 0, 0, 0, 0, 0, 0, 0, 0, 0, 0, 0, 0, 0, 0, 0, 0, 0, 0, 0, 0, 0, 0, 0, 0, 2, 0, 0, 0, 0, 0, 0, 0, 0, 0, 0, 0, 0, 0, 0, 0, 0, 0, 0, 0, 0, 0, 0, 0, 0, 0, 0, 0, 0, 0, 0, 0, 0, 0, 0, 0, 0, 0, 0, 0, 0, 0, 0, 0, 0, 0, 0, 0, 0, 0, 0, 0, 0, 0, 0, 0, 0, 0, 0, 0, 0, 0, 0, 0, 0, 0, 0, 0, 0, 0, 0, 0, 0, 1, 0, 0, 3, 0, 0, 0, 0, 0, 0, 0, 0, 0, 0, 0, 0, 0, 0, 0, 0, 0, 0, 0, 0, 0, 0, 0, 0, 0, 0, 0, 0, 0, 0, 0, 0, 0, 0, 0, 0, 0, 0, 0, 0, 0, 0, 0, 0, 0, 0, 0, 0, 0, 0, 0, 0, 0, 0, 0, 0].getD n 0⟩
theorem chk_l21_FwinStdev : chkF Tryz.prog names Tryz.f8 l21_FwinStdev = true := by kernel_rfl
theorem chk_l21_FwinSummarize : chkF Tryz.prog names Tryz.f10 l21_FwinSummarize = true := by kernel_rfl
theorem chk_l21_FwinHitcount : chkF Tryz.prog names Tryz.f11 l21_FwinHitcount = true := by kernel_rfl
theorem chk_l21_FwinMovingMedian : chkF Tryz.prog names Tryz.f5 l21_FwinMovingMedian = true := by kernel_rfl
theorem chk_l21_FwinMedian : chkF Tryz.prog names Tryz.f9 l21_FwinMedian = true := by kernel_rfl
theorem chk_l21_FwinOthers : chkF Tryz.prog names Tryz.f12 l21_FwinOthers = true := by kernel_rfl
theorem chk_l21_moved : chkF Tryz.prog names Tryz.f13 l21_moved = true := by kernel_rfl
theorem chk_l21_buckets : chkF Tryz.prog names Tryz.f21 l21_buckets = true := by kernel_rfl
theorem chk_fwin_Deviation : chkF Tryz.prog names Tryz.f16 fwin_Deviation = true := by kernel_rfl
theorem chk_fwin_Median : chkF Tryz.prog names Tryz.f14 fwin_Median = true := by kernel_rfl
theorem chk_fwin_Rank : chkF Tryz.prog names Tryz.f18 fwin_Rank = true := by kernel_rfl
theorem chk_l21_known : chkF Tryz.prog names Tryz.f20 l21_known = true := by kernel_rfl
theorem chk_r21_Deviation : chkF Tryz.prog names Tryz.f17 r21_Deviation = true := by kernel_rfl
theorem chk_r21_Median : chkF Tryz.prog names Tryz.f15 r21_Median = true := by kernel_rfl
theorem chk_r21_Rank : chkF Tryz.prog names Tryz.f19 r21_Rank = true := by kernel_rfl
theorem chk_fwin_Names : chkF Tryz.prog names Tryz.f22 fwin_Names = true := by kernel_rfl
theorem chk_r21_Names : chkF Tryz.prog names Tryz.f23 r21_Names = true := by kernel_rfl
theorem chk_fwin_Move : chkF Tryz.prog names Tryz.f26 fwin_Move = true := by kernel_rfl
theorem chk_l21_heavy : chkF Tryz.prog names Tryz.f24 l21_heavy = true := by kernel_rfl
theorem chk_l21_same : chkF Tryz.prog names Tryz.f28 l21_same = true := by kernel_rfl
theorem chk_r18_Own : chkF Tryz.prog names Tryz.f25 r18_Own = true := by kernel_rfl
theorem chk_r21_Move : chkF Tryz.prog names Tryz.f27 r21_Move = true := by kernel_rfl
theorem chk_fwin_Buckets : chkF Tryz.prog names Tryz.f49 fwin_Buckets = true := by kernel_rfl
theorem chk_r18_Is : chkF Tryz.prog names Tryz.f48 r18_Is = true := by kernel_rfl
theorem chk_r21_Buckets : chkF Tryz.prog names Tryz.f50 r21_Buckets = true := by kernel_rfl
theorem chk_agg_Known : chkF Tryz.prog names Tryz.f37 agg_Known = true := by kernel_rfl
theorem chk_agg_Of : chkF Tryz.prog names Tryz.f38 agg_Of = true := by kernel_rfl
theorem chk_fixed_Mul : chkF Tryz.prog names Tryz.f40 fixed_Mul = true := by kernel_rfl
theorem chk_fixed_Sqrt : chkF Tryz.prog names Tryz.f41 fixed_Sqrt = true := by kernel_rfl
theorem chk_fixed_Sub : chkF Tryz.prog names Tryz.f39 fixed_Sub = true := by kernel_rfl
theorem chk_fixed_Add : chkF Tryz.prog names Tryz.f31 fixed_Add = true := by kernel_rfl
theorem chk_fixed_Div : chkF Tryz.prog names Tryz.f30 fixed_Div = true := by kernel_rfl
theorem chk_fixed_Int : chkF Tryz.prog names Tryz.f32 fixed_Int = true := by kernel_rfl
theorem chk_fwin_sorted : chkF Tryz.prog names Tryz.f29 fwin_sorted = true := by kernel_rfl
theorem chk_r1_Mul : chkF Tryz.prog names Tryz.f45 r1_Mul = true := by kernel_rfl
theorem chk_r1_Sqrt : chkF Tryz.prog names Tryz.f46 r1_Sqrt = true := by kernel_rfl
theorem chk_r1_Sub : chkF Tryz.prog names Tryz.f44 r1_Sub = true := by kernel_rfl
theorem chk_r6_Known : chkF Tryz.prog names Tryz.f42 r6_Known = true := by kernel_rfl
theorem chk_r6_Of : chkF Tryz.prog names Tryz.f43 r6_Of = true := by kernel_rfl
theorem chk_r1_Add : chkF Tryz.prog names Tryz.f35 r1_Add = true := by kernel_rfl
theorem chk_r1_Div : chkF Tryz.prog names Tryz.f34 r1_Div = true := by kernel_rfl
theorem chk_r1_Int : chkF Tryz.prog names Tryz.f36 r1_Int = true := by kernel_rfl
theorem chk_r21_sorted : chkF Tryz.prog names Tryz.f33 r21_sorted = true := by kernel_rfl
theorem chk_r1_Known : chkF Tryz.prog names Tryz.f47 r1_Known = true := by kernel_rfl
theorem chk_fwin_window_at : chkF Tryz.prog names Tryz.f55 fwin_window_at = true := by kernel_rfl
theorem chk_dec_Digits : chkF Tryz.prog names Tryz.f54 dec_Digits = true := by kernel_rfl
theorem chk_fwin_does : chkF Tryz.prog names Tryz.f51 fwin_does = true := by kernel_rfl
theorem chk_series_Is : chkF Tryz.prog names Tryz.f52 series_Is = true := by kernel_rfl
theorem chk_series_Label : chkF Tryz.prog names Tryz.f53 series_Label = true := by kernel_rfl
theorem chk_r18_Same : chkF Tryz.prog names Tryz.f59 r18_Same = true := by kernel_rfl
theorem chk_r18_Label : chkF Tryz.prog names Tryz.f57 r18_Label = true := by kernel_rfl
theorem chk_r2_Digits : chkF Tryz.prog names Tryz.f58 r2_Digits = true := by kernel_rfl
theorem chk_r21_window : chkF Tryz.prog names Tryz.f56 r21_window = true := by kernel_rfl
theorem chk_agg_Name : chkF Tryz.prog names Tryz.f77 agg_Name = true := by kernel_rfl
theorem chk_fwin_hits : chkF Tryz.prog names Tryz.f78 fwin_hits = true := by kernel_rfl
theorem chk_series_End : chkF Tryz.prog names Tryz.f80 series_End = true := by kernel_rfl
theorem chk_series_Fit : chkF Tryz.prog names Tryz.f81 series_Fit = true := by kernel_rfl
theorem chk_slot_Align : chkF Tryz.prog names Tryz.f79 slot_Align = true := by kernel_rfl
theorem chk_r1_Is : chkF Tryz.prog names Tryz.f76 r1_Is = true := by kernel_rfl
theorem chk_r1_MulDiv : chkF Tryz.prog names Tryz.f69 r1_MulDiv = true := by kernel_rfl
theorem chk_r1_Of : chkF Tryz.prog names Tryz.f70 r1_Of = true := by kernel_rfl
theorem chk_r18_Fit : chkF Tryz.prog names Tryz.f84 r18_Fit = true := by kernel_rfl
theorem chk_r5_Align : chkF Tryz.prog names Tryz.f83 r5_Align = true := by kernel_rfl
theorem chk_r6_Name : chkF Tryz.prog names Tryz.f82 r6_Name = true := by kernel_rfl
theorem chk_fixed_Is : chkF Tryz.prog names Tryz.f72 fixed_Is = true := by kernel_rfl
theorem chk_fixed_Less : chkF Tryz.prog names Tryz.f73 fixed_Less = true := by kernel_rfl
theorem chk_fixed_MulDiv : chkF Tryz.prog names Tryz.f65 fixed_MulDiv = true := by kernel_rfl
theorem chk_fixed_known : chkF Tryz.prog names Tryz.f63 fixed_known = true := by kernel_rfl
theorem chk_fixed_val : chkF Tryz.prog names Tryz.f64 fixed_val = true := by kernel_rfl
theorem chk_fixed_Of : chkF Tryz.prog names Tryz.f66 fixed_Of = true := by kernel_rfl
theorem chk_math_bits_Mul64 : chkF Tryz.prog names Tryz.f74 math_bits_Mul64 = true := by kernel_rfl
theorem chk_fixed_sum : chkF Tryz.prog names Tryz.f67 fixed_sum = true := by kernel_rfl
theorem chk_fwin_sorted_1 : chkF Tryz.prog names Tryz.f61 fwin_sorted_1 = true := by kernel_rfl
theorem chk_r1_two : chkF Tryz.prog names Tryz.f68 r1_two = true := by kernel_rfl
theorem chk_r1_times : chkF Tryz.prog names Tryz.f75 r1_times = true := by kernel_rfl
theorem chk_r1_plus : chkF Tryz.prog names Tryz.f71 r1_plus = true := by kernel_rfl
theorem chk_fwin_does_1 : chkF Tryz.prog names Tryz.f85 fwin_does_1 = true := by kernel_rfl
theorem chk_series_Is_1 : chkF Tryz.prog names Tryz.f88 series_Is_1 = true := by kernel_rfl
theorem chk_slices_ContainsFunc_api_Val_api_Val : chkF Tryz.prog names Tryz.f87 slices_ContainsFunc_api_Val_api_Val = true := by kernel_rfl
theorem chk_r2_plain : chkF Tryz.prog names Tryz.f91 r2_plain = true := by kernel_rfl
theorem chk_series_Own : chkF Tryz.prog names Tryz.f98 series_Own = true := by kernel_rfl
theorem chk_series_Cons : chkF Tryz.prog names Tryz.f99 series_Cons = true := by kernel_rfl
theorem chk_series_within : chkF Tryz.prog names Tryz.f100 series_within = true := by kernel_rfl
theorem chk_r1_size : chkF Tryz.prog names Tryz.f97 r1_size = true := by kernel_rfl
theorem chk_r18_Cons : chkF Tryz.prog names Tryz.f101 r18_Cons = true := by kernel_rfl
theorem chk_fixed_size : chkF Tryz.prog names Tryz.f95 fixed_size = true := by kernel_rfl
theorem chk_math_bits_Div64 : chkF Tryz.prog names Tryz.f96 math_bits_Div64 = true := by kernel_rfl
theorem chk_cmp_Compare_int : chkF Tryz.prog names Tryz.f62 cmp_Compare_int = true := by kernel_rfl
theorem chk_fwin_does_1_1 : chkF Tryz.prog names Tryz.f86 fwin_does_1_1 = true := by kernel_rfl
theorem chk_slices_IndexFunc_api_Val_api_Val : chkF Tryz.prog names Tryz.f102 slices_IndexFunc_api_Val_api_Val = true := by kernel_rfl
theorem chk_series_within_1 : chkF Tryz.prog names Tryz.f119 series_within_1 = true := by kernel_rfl
theorem chk_math_bits_LeadingZeros64 : chkF Tryz.prog names Tryz.f117 math_bits_LeadingZeros64 = true := by kernel_rfl
theorem chk_cmp_isNaN_int : chkF Tryz.prog names Tryz.f94 cmp_isNaN_int = true := by kernel_rfl
theorem chk_math_bits_Len64 : chkF Tryz.prog names Tryz.f116 math_bits_Len64 = true := by kernel_rfl
theorem row_strings_Join : JoinOk Tryz.prog 89 := ⟨Ab.enters_of Tryz.func89 (by kernel_rfl) (by kernel_rfl), fun a c sep w => Any.strings_Join_none Tryz.lays156 Tryz.Builder_Extra_156 a c sep w, fun bk o c xs sep w h1 h2 h3 h4 h5 => Any.strings_Join Tryz.lays156 Tryz.Builder_Extra_156 bk o c xs sep w h1 h2 h3 h4 h5⟩
theorem row_strconv_Itoa : ItoaOk Tryz.prog 90 := ⟨Ab.enters_of Tryz.func90 (by kernel_rfl) (by kernel_rfl), fun n h0 h1 w ht => Any.strconv_Itoa Tryz.laysM171 n h0 h1 w ht⟩
theorem row_slices_Clone_api_Val_api_Val : CloneOk Tryz.prog names 49 2 slices_Clone_api_Val_api_Val := ⟨by kernel_rfl, ⟨_, Tryz.func118, by kernel_rfl⟩, by decide, clone_nil, clone_mem⟩
theorem row_slices_SortFunc_api_Val_api_Val : SortOk Tryz.prog 60 61 := Tryz.sortOk
theorem known : Known Γ names Tryz.prog where
  mixed := by kernel_rfl
  code f fn h := by
    simp only [Γ] at h
    split at h
    · cases h; exact ⟨_, Tryz.func8, chk_l21_FwinStdev⟩
    · cases h; exact ⟨_, Tryz.func10, chk_l21_FwinSummarize⟩
    · cases h; exact ⟨_, Tryz.func11, chk_l21_FwinHitcount⟩
    · cases h; exact ⟨_, Tryz.func5, chk_l21_FwinMovingMedian⟩
    · cases h; exact ⟨_, Tryz.func9, chk_l21_FwinMedian⟩
    · cases h; exact ⟨_, Tryz.func12, chk_l21_FwinOthers⟩
    · cases h; exact ⟨_, Tryz.func13, chk_l21_moved⟩
    · cases h; exact ⟨_, Tryz.func21, chk_l21_buckets⟩
    · cases h; exact ⟨_, Tryz.func16, chk_fwin_Deviation⟩
    · cases h; exact ⟨_, Tryz.func14, chk_fwin_Median⟩
    · cases h; exact ⟨_, Tryz.func18, chk_fwin_Rank⟩
    · cases h; exact ⟨_, Tryz.func20, chk_l21_known⟩
    · cases h; exact ⟨_, Tryz.func17, chk_r21_Deviation⟩
    · cases h; exact ⟨_, Tryz.func15, chk_r21_Median⟩
    · cases h; exact ⟨_, Tryz.func19, chk_r21_Rank⟩
    · cases h; exact ⟨_, Tryz.func22, chk_fwin_Names⟩
    · cases h; exact ⟨_, Tryz.func23, chk_r21_Names⟩
    · cases h; exact ⟨_, Tryz.func26, chk_fwin_Move⟩
    · cases h; exact ⟨_, Tryz.func24, chk_l21_heavy⟩
    · cases h; exact ⟨_, Tryz.func28, chk_l21_same⟩
    · cases h; exact ⟨_, Tryz.func25, chk_r18_Own⟩
    · cases h; exact ⟨_, Tryz.func27, chk_r21_Move⟩
    · cases h; exact ⟨_, Tryz.func49, chk_fwin_Buckets⟩
    · cases h; exact ⟨_, Tryz.func48, chk_r18_Is⟩
    · cases h; exact ⟨_, Tryz.func50, chk_r21_Buckets⟩
    · cases h; exact ⟨_, Tryz.func37, chk_agg_Known⟩
    · cases h; exact ⟨_, Tryz.func38, chk_agg_Of⟩
    · cases h; exact ⟨_, Tryz.func40, chk_fixed_Mul⟩
    · cases h; exact ⟨_, Tryz.func41, chk_fixed_Sqrt⟩
    · cases h; exact ⟨_, Tryz.func39, chk_fixed_Sub⟩
    · cases h; exact ⟨_, Tryz.func31, chk_fixed_Add⟩
    · cases h; exact ⟨_, Tryz.func30, chk_fixed_Div⟩
    · cases h; exact ⟨_, Tryz.func32, chk_fixed_Int⟩
    · cases h; exact ⟨_, Tryz.func29, chk_fwin_sorted⟩
    · cases h; exact ⟨_, Tryz.func45, chk_r1_Mul⟩
    · cases h; exact ⟨_, Tryz.func46, chk_r1_Sqrt⟩
    · cases h; exact ⟨_, Tryz.func44, chk_r1_Sub⟩
    · cases h; exact ⟨_, Tryz.func42, chk_r6_Known⟩
    · cases h; exact ⟨_, Tryz.func43, chk_r6_Of⟩
    · cases h; exact ⟨_, Tryz.func35, chk_r1_Add⟩
    · cases h; exact ⟨_, Tryz.func34, chk_r1_Div⟩
    · cases h; exact ⟨_, Tryz.func36, chk_r1_Int⟩
    · cases h; exact ⟨_, Tryz.func33, chk_r21_sorted⟩
    · cases h; exact ⟨_, Tryz.func47, chk_r1_Known⟩
    · cases h; exact ⟨_, Tryz.func55, chk_fwin_window_at⟩
    · cases h; exact ⟨_, Tryz.func54, chk_dec_Digits⟩
    · cases h; exact ⟨_, Tryz.func51, chk_fwin_does⟩
    · cases h; exact ⟨_, Tryz.func52, chk_series_Is⟩
    · cases h; exact ⟨_, Tryz.func53, chk_series_Label⟩
    · cases h; exact ⟨_, Tryz.func59, chk_r18_Same⟩
    · cases h; exact ⟨_, Tryz.func57, chk_r18_Label⟩
    · cases h; exact ⟨_, Tryz.func58, chk_r2_Digits⟩
    · cases h; exact ⟨_, Tryz.func56, chk_r21_window⟩
    · cases h; exact ⟨_, Tryz.func77, chk_agg_Name⟩
    · cases h; exact ⟨_, Tryz.func78, chk_fwin_hits⟩
    · cases h; exact ⟨_, Tryz.func80, chk_series_End⟩
    · cases h; exact ⟨_, Tryz.func81, chk_series_Fit⟩
    · cases h; exact ⟨_, Tryz.func79, chk_slot_Align⟩
    · cases h; exact ⟨_, Tryz.func76, chk_r1_Is⟩
    · cases h; exact ⟨_, Tryz.func69, chk_r1_MulDiv⟩
    · cases h; exact ⟨_, Tryz.func70, chk_r1_Of⟩
    · cases h; exact ⟨_, Tryz.func84, chk_r18_Fit⟩
    · cases h; exact ⟨_, Tryz.func83, chk_r5_Align⟩
    · cases h; exact ⟨_, Tryz.func82, chk_r6_Name⟩
    · cases h; exact ⟨_, Tryz.func72, chk_fixed_Is⟩
    · cases h; exact ⟨_, Tryz.func73, chk_fixed_Less⟩
    · cases h; exact ⟨_, Tryz.func65, chk_fixed_MulDiv⟩
    · cases h; exact ⟨_, Tryz.func63, chk_fixed_known⟩
    · cases h; exact ⟨_, Tryz.func64, chk_fixed_val⟩
    · cases h; exact ⟨_, Tryz.func66, chk_fixed_Of⟩
    · cases h; exact ⟨_, Tryz.func74, chk_math_bits_Mul64⟩
    · cases h; exact ⟨_, Tryz.func67, chk_fixed_sum⟩
    · cases h; exact ⟨_, Tryz.func61, chk_fwin_sorted_1⟩
    · cases h
    · cases h; exact ⟨_, Tryz.func68, chk_r1_two⟩
    · cases h; exact ⟨_, Tryz.func75, chk_r1_times⟩
    · cases h; exact ⟨_, Tryz.func71, chk_r1_plus⟩
    · cases h
    · cases h; exact ⟨_, Tryz.func85, chk_fwin_does_1⟩
    · cases h; exact ⟨_, Tryz.func88, chk_series_Is_1⟩
    · cases h; exact ⟨_, Tryz.func87, chk_slices_ContainsFunc_api_Val_api_Val⟩
    · cases h
    · cases h; exact ⟨_, Tryz.func91, chk_r2_plain⟩
    · cases h; exact ⟨_, Tryz.func98, chk_series_Own⟩
    · cases h; exact ⟨_, Tryz.func99, chk_series_Cons⟩
    · cases h; exact ⟨_, Tryz.func100, chk_series_within⟩
    · cases h; exact ⟨_, Tryz.func97, chk_r1_size⟩
    · cases h; exact ⟨_, Tryz.func101, chk_r18_Cons⟩
    · cases h; exact ⟨_, Tryz.func95, chk_fixed_size⟩
    · cases h; exact ⟨_, Tryz.func96, chk_math_bits_Div64⟩
    · cases h; exact ⟨_, Tryz.func62, chk_cmp_Compare_int⟩
    · cases h; exact ⟨_, Tryz.func86, chk_fwin_does_1_1⟩
    · cases h; exact ⟨_, Tryz.func102, chk_slices_IndexFunc_api_Val_api_Val⟩
    · cases h
    · cases h; exact ⟨_, Tryz.func119, chk_series_within_1⟩
    · cases h; exact ⟨_, Tryz.func117, chk_math_bits_LeadingZeros64⟩
    · cases h; exact ⟨_, Tryz.func94, chk_cmp_isNaN_int⟩
    · cases h; exact ⟨_, Tryz.func116, chk_math_bits_Len64⟩
    · cases h
  prim f g h := by
    simp only [Γ] at h
    split at h
    · cases h
    · cases h
    · cases h
    · cases h
    · cases h
    · cases h
    · cases h
    · cases h
    · cases h
    · cases h
    · cases h
    · cases h
    · cases h
    · cases h
    · cases h
    · cases h
    · cases h
    · cases h
    · cases h
    · cases h
    · cases h
    · cases h
    · cases h
    · cases h
    · cases h
    · cases h
    · cases h
    · cases h
    · cases h
    · cases h
    · cases h
    · cases h
    · cases h
    · cases h
    · cases h
    · cases h
    · cases h
    · cases h
    · cases h
    · cases h
    · cases h
    · cases h
    · cases h
    · cases h
    · cases h
    · cases h
    · cases h
    · cases h
    · cases h
    · cases h
    · cases h
    · cases h
    · cases h
    · cases h
    · cases h
    · cases h
    · cases h
    · cases h
    · cases h
    · cases h
    · cases h
    · cases h
    · cases h
    · cases h
    · cases h
    · cases h
    · cases h
    · cases h
    · cases h
    · cases h
    · cases h
    · cases h
    · cases h
    · cases h
    · cases h
    · cases h
    · cases h
    · cases h; exact prim_itoa (gv := 154) (by kernel_rfl) (by kernel_rfl) row_strconv_Itoa
    · cases h
    · cases h
    · cases h
    · cases h; exact prim_join row_strings_Join
    · cases h
    · cases h
    · cases h
    · cases h
    · cases h
    · cases h
    · cases h
    · cases h
    · cases h
    · cases h
    · cases h
    · cases h
    · cases h
    · cases h
    · cases h
    · cases h
    · cases h
  fresh f g h := by
    simp only [Γ] at h
    split at h
    · cases h
    · cases h
    · cases h
    · cases h
    · cases h
    · cases h
    · cases h
    · cases h
    · cases h
    · cases h
    · cases h
    · cases h
    · cases h
    · cases h
    · cases h
    · cases h
    · cases h
    · cases h
    · cases h
    · cases h
    · cases h
    · cases h
    · cases h
    · cases h
    · cases h
    · cases h
    · cases h
    · cases h
    · cases h
    · cases h
    · cases h
    · cases h
    · cases h
    · cases h
    · cases h
    · cases h
    · cases h
    · cases h
    · cases h
    · cases h
    · cases h
    · cases h
    · cases h
    · cases h
    · cases h
    · cases h
    · cases h
    · cases h
    · cases h
    · cases h
    · cases h
    · cases h
    · cases h
    · cases h
    · cases h
    · cases h
    · cases h
    · cases h
    · cases h
    · cases h
    · cases h
    · cases h
    · cases h
    · cases h
    · cases h
    · cases h
    · cases h
    · cases h
    · cases h
    · cases h
    · cases h
    · cases h
    · cases h
    · cases h
    · cases h
    · cases h
    · cases h
    · cases h
    · cases h
    · cases h
    · cases h
    · cases h
    · cases h
    · cases h
    · cases h
    · cases h
    · cases h
    · cases h
    · cases h
    · cases h
    · cases h
    · cases h
    · cases h
    · cases h; exact fresh_clone row_slices_Clone_api_Val_api_Val
    · cases h
    · cases h
    · cases h
    · cases h
    · cases h
  upd f g h := by
    simp only [Γ] at h
    split at h
    · cases h
    · cases h
    · cases h
    · cases h
    · cases h
    · cases h
    · cases h
    · cases h
    · cases h
    · cases h
    · cases h
    · cases h
    · cases h
    · cases h
    · cases h
    · cases h
    · cases h
    · cases h
    · cases h
    · cases h
    · cases h
    · cases h
    · cases h
    · cases h
    · cases h
    · cases h
    · cases h
    · cases h
    · cases h
    · cases h
    · cases h
    · cases h
    · cases h
    · cases h
    · cases h
    · cases h
    · cases h
    · cases h
    · cases h
    · cases h
    · cases h
    · cases h
    · cases h
    · cases h
    · cases h
    · cases h
    · cases h
    · cases h
    · cases h
    · cases h
    · cases h
    · cases h
    · cases h
    · cases h
    · cases h
    · cases h
    · cases h
    · cases h
    · cases h
    · cases h
    · cases h
    · cases h
    · cases h
    · cases h
    · cases h
    · cases h
    · cases h
    · cases h
    · cases h
    · cases h
    · cases h
    · cases h
    · cases h
    · cases h; exact upd_sort row_slices_SortFunc_api_Val_api_Val
    · cases h
    · cases h
    · cases h
    · cases h
    · cases h
    · cases h
    · cases h
    · cases h
    · cases h
    · cases h
    · cases h
    · cases h
    · cases h
    · cases h
    · cases h
    · cases h
    · cases h
    · cases h
    · cases h
    · cases h
    · cases h
    · cases h
    · cases h
    · cases h
    · cases h
end Ab
