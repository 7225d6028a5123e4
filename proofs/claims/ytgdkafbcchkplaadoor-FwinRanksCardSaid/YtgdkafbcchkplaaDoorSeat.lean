import Derived.Test.YtgdkafbcchkplaaDoorCode
import Derived.Test.YtgdkafbcchkplaaDoorLClone
import Derived.Test.YtgdkafbcchkplaaDoorSortSeat
import Derived.Test.YtgdkafbcchkplaaDoorShelf
import Derived.Test.YtgdkafbcchkplaaDoorAbZ3
import Derived.Test.YtgdkafbcchkplaaDoorPSer
import Derived.KernelRfl
import Derived.Test.YtgdkafbcchkplaaDoorProg
namespace Ab
open Go Go.Proofs
def names : Names := ⟨fun n => [0, 0, 0, 0, 1, 0, 0, 0, 0, 0, 0, 0, 0, 0, 0, 0, 0, 0, 0, 0, 0, 0, 0, 0, 0, 0, 0, 0, 0, 29, 20, 51, 0, 0, 0, 0, 0, 0, 0, 0, 0, 0, 0, 0, 0, 0, 0, 0, 42, 71, 0, 0, 0, 0, 0, 0, 0, 0, 0, 0, 64, 63, 62, 0, 0, 0, 80, 0, 0, 0, 0, 0, 0, 0, 0, 0, 0, 0, 0, 0, 0, 0, 0, 0, 0, 0, 79, 93, 94, 0, 0, 0, 0, 0, 0, 0, 0, 0, 0, 0, 10, 0, 8, 6, 22, 21, 0, 0, 0, 0, 0, 19, 18, 7, 43, 37, 38, 34, 39, 40, 17, 0, 9, 0, 0, 35, 41, 61, 23, 13, 24, 11, 36, 44, 14, 25, 55, 26, 56, 57, 47, 28, 76, 46, 52, 78, 77, 74, 72, 73, 92, 0, 0, 91, 0, 0, 0, 16, 33, 32, 31, 30, 0, 0, 45, 53, 54, 67, 66, 0, 75, 0, 0, 0, 60, 59, 58, 27, 0, 0, 0, 0, 48, 49, 50, 69, 68, 70, 90, 89, 88, 87, 86, 85, 84, 83, 82, 101, 100, 103, 102, 99, 108, 0, 12, 0, 0, 0, 0, 0, 0, 15, 3, 4, 5].getD n 0, fun n => [0, 0, 0, 0, 0, 0, 0, 0, 0, 0, 0, 0, 0, 0, 0, 0, 0, 0, 0, 0, 0, 0, 0, 0, 0, 0, 0, 0, 0, 0, 0, 0, 0, 0, 0, 0, 0, 0, 0, 0, 0, 0, 0, 0, 0, 0, 0, 0, 0, 0, 0, 0, 0, 0, 0, 0, 0, 0, 0, 0, 0, 0, 0, 0, 0, 0, 0, 0, 0, 0, 0, 0, 0, 0, 0, 0, 0, 0, 2, 0, 0, 0, 0, 0, 0, 0, 0, 0, 0, 0, 0, 0, 0, 0, 0, 0, 0, 0, 0, 0, 0, 0, 0, 0, 0, 0, 0, 0, 0, 0, 0, 0, 0, 0, 0, 0, 0, 0, 0, 0, 0, 0, 0, 0, 0, 0, 0, 0, 0, 0, 0, 0, 0, 0, 0, 0, 0, 0, 0, 0, 0, 0, 0, 0, 0, 0, 0, 0, 0, 0, 0, 1, 0, 0, 3, 0, 0, 0, 0, 0, 0, 0, 0, 0, 0, 0, 0, 0, 0, 0, 0, 0, 0, 0, 0, 0, 0, 0, 0, 0, 0, 0, 0, 0, 0, 0, 0, 0, 0, 0, 0, 0, 0, 0, 0, 0, 0, 0, 0, 0, 0, 0, 0, 0, 0, 0, 0, 0, 0, 0, 0, 0, 0, 0, 0].getD n 0⟩
theorem chk_l21_FwinOne : chkF Tryd.prog names Tryd.f3 l21_FwinOne = true := by kernel_rfl
theorem chk_l21_FwinRanks : chkF Tryd.prog names Tryd.f4 l21_FwinRanks = true := by kernel_rfl
theorem chk_l21_FwinHits : chkF Tryd.prog names Tryd.f5 l21_FwinHits = true := by kernel_rfl
theorem chk_fwin_Move : chkF Tryd.prog names Tryd.f8 fwin_Move = true := by kernel_rfl
theorem chk_l21_heavy : chkF Tryd.prog names Tryd.f6 l21_heavy = true := by kernel_rfl
theorem chk_l21_known : chkF Tryd.prog names Tryd.f10 l21_known = true := by kernel_rfl
theorem chk_r18_Is : chkF Tryd.prog names Tryd.f7 r18_Is = true := by kernel_rfl
theorem chk_r6_Of : chkF Tryd.prog names Tryd.f9 r6_Of = true := by kernel_rfl
theorem chk_fwin_Rank : chkF Tryd.prog names Tryd.f12 fwin_Rank = true := by kernel_rfl
theorem chk_r1_Int : chkF Tryd.prog names Tryd.f13 r1_Int = true := by kernel_rfl
theorem chk_r1_Less : chkF Tryd.prog names Tryd.f15 r1_Less = true := by kernel_rfl
theorem chk_r1_Of : chkF Tryd.prog names Tryd.f14 r1_Of = true := by kernel_rfl
theorem chk_r6_Known : chkF Tryd.prog names Tryd.f11 r6_Known = true := by kernel_rfl
theorem chk_fwin_Buckets : chkF Tryd.prog names Tryd.f16 fwin_Buckets = true := by kernel_rfl
theorem chk_fwin_window_at : chkF Tryd.prog names Tryd.f22 fwin_window_at = true := by kernel_rfl
theorem chk_dec_Digits : chkF Tryd.prog names Tryd.f21 dec_Digits = true := by kernel_rfl
theorem chk_fwin_does : chkF Tryd.prog names Tryd.f18 fwin_does = true := by kernel_rfl
theorem chk_series_Is : chkF Tryd.prog names Tryd.f19 series_Is = true := by kernel_rfl
theorem chk_series_Label : chkF Tryd.prog names Tryd.f20 series_Label = true := by kernel_rfl
theorem chk_r1_Is : chkF Tryd.prog names Tryd.f17 r1_Is = true := by kernel_rfl
theorem chk_r1_Add : chkF Tryd.prog names Tryd.f23 r1_Add = true := by kernel_rfl
theorem chk_r1_Div : chkF Tryd.prog names Tryd.f24 r1_Div = true := by kernel_rfl
theorem chk_fixed_Int : chkF Tryd.prog names Tryd.f26 fixed_Int = true := by kernel_rfl
theorem chk_fwin_sorted : chkF Tryd.prog names Tryd.f27 fwin_sorted = true := by kernel_rfl
theorem chk_r1_two : chkF Tryd.prog names Tryd.f28 r1_two = true := by kernel_rfl
theorem chk_r1_Known : chkF Tryd.prog names Tryd.f25 r1_Known = true := by kernel_rfl
theorem chk_agg_Name : chkF Tryd.prog names Tryd.f29 agg_Name = true := by kernel_rfl
theorem chk_fwin_hits : chkF Tryd.prog names Tryd.f30 fwin_hits = true := by kernel_rfl
theorem chk_series_End : chkF Tryd.prog names Tryd.f32 series_End = true := by kernel_rfl
theorem chk_series_Fit : chkF Tryd.prog names Tryd.f33 series_Fit = true := by kernel_rfl
theorem chk_slot_Align : chkF Tryd.prog names Tryd.f31 slot_Align = true := by kernel_rfl
theorem chk_fwin_Deviation : chkF Tryd.prog names Tryd.f38 fwin_Deviation = true := by kernel_rfl
theorem chk_fwin_Median : chkF Tryd.prog names Tryd.f37 fwin_Median = true := by kernel_rfl
theorem chk_fwin_does_1 : chkF Tryd.prog names Tryd.f34 fwin_does_1 = true := by kernel_rfl
theorem chk_series_Is_1 : chkF Tryd.prog names Tryd.f40 series_Is_1 = true := by kernel_rfl
theorem chk_slices_ContainsFunc_api_Val_api_Val : chkF Tryd.prog names Tryd.f39 slices_ContainsFunc_api_Val_api_Val = true := by kernel_rfl
theorem chk_r1_plus : chkF Tryd.prog names Tryd.f44 r1_plus = true := by kernel_rfl
theorem chk_r1_MulDiv : chkF Tryd.prog names Tryd.f45 r1_MulDiv = true := by kernel_rfl
theorem chk_fixed_Of : chkF Tryd.prog names Tryd.f46 fixed_Of = true := by kernel_rfl
theorem chk_agg_Known : chkF Tryd.prog names Tryd.f47 agg_Known = true := by kernel_rfl
theorem chk_fwin_sorted_1 : chkF Tryd.prog names Tryd.f49 fwin_sorted_1 = true := by kernel_rfl
theorem chk_fixed_MulDiv : chkF Tryd.prog names Tryd.f52 fixed_MulDiv = true := by kernel_rfl
theorem chk_series_Own : chkF Tryd.prog names Tryd.f51 series_Own = true := by kernel_rfl
theorem chk_agg_Of : chkF Tryd.prog names Tryd.f36 agg_Of = true := by kernel_rfl
theorem chk_series_Cons : chkF Tryd.prog names Tryd.f53 series_Cons = true := by kernel_rfl
theorem chk_series_within : chkF Tryd.prog names Tryd.f54 series_within = true := by kernel_rfl
theorem chk_fixed_Mul : chkF Tryd.prog names Tryd.f59 fixed_Mul = true := by kernel_rfl
theorem chk_fixed_Sqrt : chkF Tryd.prog names Tryd.f60 fixed_Sqrt = true := by kernel_rfl
theorem chk_fixed_Sub : chkF Tryd.prog names Tryd.f58 fixed_Sub = true := by kernel_rfl
theorem chk_fixed_Add : chkF Tryd.prog names Tryd.f55 fixed_Add = true := by kernel_rfl
theorem chk_fixed_Div : chkF Tryd.prog names Tryd.f56 fixed_Div = true := by kernel_rfl
theorem chk_fwin_does_1_1 : chkF Tryd.prog names Tryd.f35 fwin_does_1_1 = true := by kernel_rfl
theorem chk_fixed_Is : chkF Tryd.prog names Tryd.f41 fixed_Is = true := by kernel_rfl
theorem chk_slices_IndexFunc_api_Val_api_Val : chkF Tryd.prog names Tryd.f61 slices_IndexFunc_api_Val_api_Val = true := by kernel_rfl
theorem chk_r1_size : chkF Tryd.prog names Tryd.f67 r1_size = true := by kernel_rfl
theorem chk_r1_times : chkF Tryd.prog names Tryd.f66 r1_times = true := by kernel_rfl
theorem chk_cmp_Compare_int : chkF Tryd.prog names Tryd.f50 cmp_Compare_int = true := by kernel_rfl
theorem chk_fixed_size : chkF Tryd.prog names Tryd.f72 fixed_size = true := by kernel_rfl
theorem chk_math_bits_Div64 : chkF Tryd.prog names Tryd.f74 math_bits_Div64 = true := by kernel_rfl
theorem chk_math_bits_Mul64 : chkF Tryd.prog names Tryd.f73 math_bits_Mul64 = true := by kernel_rfl
theorem chk_fixed_Less : chkF Tryd.prog names Tryd.f57 fixed_Less = true := by kernel_rfl
theorem chk_series_within_1 : chkF Tryd.prog names Tryd.f75 series_within_1 = true := by kernel_rfl
theorem chk_fixed_known : chkF Tryd.prog names Tryd.f77 fixed_known = true := by kernel_rfl
theorem chk_fixed_val : chkF Tryd.prog names Tryd.f78 fixed_val = true := by kernel_rfl
theorem chk_fixed_sum : chkF Tryd.prog names Tryd.f76 fixed_sum = true := by kernel_rfl
theorem chk_cmp_isNaN_int : chkF Tryd.prog names Tryd.f70 cmp_isNaN_int = true := by kernel_rfl
theorem chk_math_bits_LeadingZeros64 : chkF Tryd.prog names Tryd.f92 math_bits_LeadingZeros64 = true := by kernel_rfl
theorem chk_math_bits_Len64 : chkF Tryd.prog names Tryd.f91 math_bits_Len64 = true := by kernel_rfl
theorem row_strings_Join : JoinOk Tryd.prog 42 := ⟨Ab.enters_of Tryd.func42 (by kernel_rfl) (by kernel_rfl), fun a c sep w => Any.strings_Join_none Tryd.lays156 Tryd.Builder_Extra_156 a c sep w, fun bk o c xs sep w h1 h2 h3 h4 h5 => Any.strings_Join Tryd.lays156 Tryd.Builder_Extra_156 bk o c xs sep w h1 h2 h3 h4 h5⟩
theorem row_strconv_Itoa : ItoaOk Tryd.prog 43 := ⟨Ab.enters_of Tryd.func43 (by kernel_rfl) (by kernel_rfl), fun n h0 h1 w ht => Any.strconv_Itoa Tryd.laysM171 n h0 h1 w ht⟩
theorem row_slices_Clone_api_Val_api_Val : CloneOk Tryd.prog names 49 2 slices_Clone_api_Val_api_Val := ⟨by kernel_rfl, ⟨_, Tryd.func71, by kernel_rfl⟩, by decide, clone_nil, clone_mem⟩
theorem row_slices_SortFunc_api_Val_api_Val : SortOk Tryd.prog 48 49 := Tryd.sortOk
theorem known : Known Γ names Tryd.prog where
  mixed := by kernel_rfl
  code f fn h := by
    simp only [Γ] at h
    split at h
    · cases h; exact ⟨_, Tryd.func3, chk_l21_FwinOne⟩
    · cases h; exact ⟨_, Tryd.func4, chk_l21_FwinRanks⟩
    · cases h; exact ⟨_, Tryd.func5, chk_l21_FwinHits⟩
    · cases h; exact ⟨_, Tryd.func8, chk_fwin_Move⟩
    · cases h; exact ⟨_, Tryd.func6, chk_l21_heavy⟩
    · cases h; exact ⟨_, Tryd.func10, chk_l21_known⟩
    · cases h; exact ⟨_, Tryd.func7, chk_r18_Is⟩
    · cases h; exact ⟨_, Tryd.func9, chk_r6_Of⟩
    · cases h; exact ⟨_, Tryd.func12, chk_fwin_Rank⟩
    · cases h; exact ⟨_, Tryd.func13, chk_r1_Int⟩
    · cases h; exact ⟨_, Tryd.func15, chk_r1_Less⟩
    · cases h; exact ⟨_, Tryd.func14, chk_r1_Of⟩
    · cases h; exact ⟨_, Tryd.func11, chk_r6_Known⟩
    · cases h; exact ⟨_, Tryd.func16, chk_fwin_Buckets⟩
    · cases h; exact ⟨_, Tryd.func22, chk_fwin_window_at⟩
    · cases h; exact ⟨_, Tryd.func21, chk_dec_Digits⟩
    · cases h; exact ⟨_, Tryd.func18, chk_fwin_does⟩
    · cases h; exact ⟨_, Tryd.func19, chk_series_Is⟩
    · cases h; exact ⟨_, Tryd.func20, chk_series_Label⟩
    · cases h; exact ⟨_, Tryd.func17, chk_r1_Is⟩
    · cases h; exact ⟨_, Tryd.func23, chk_r1_Add⟩
    · cases h; exact ⟨_, Tryd.func24, chk_r1_Div⟩
    · cases h; exact ⟨_, Tryd.func26, chk_fixed_Int⟩
    · cases h; exact ⟨_, Tryd.func27, chk_fwin_sorted⟩
    · cases h; exact ⟨_, Tryd.func28, chk_r1_two⟩
    · cases h; exact ⟨_, Tryd.func25, chk_r1_Known⟩
    · cases h; exact ⟨_, Tryd.func29, chk_agg_Name⟩
    · cases h; exact ⟨_, Tryd.func30, chk_fwin_hits⟩
    · cases h; exact ⟨_, Tryd.func32, chk_series_End⟩
    · cases h; exact ⟨_, Tryd.func33, chk_series_Fit⟩
    · cases h; exact ⟨_, Tryd.func31, chk_slot_Align⟩
    · cases h
    · cases h; exact ⟨_, Tryd.func38, chk_fwin_Deviation⟩
    · cases h; exact ⟨_, Tryd.func37, chk_fwin_Median⟩
    · cases h; exact ⟨_, Tryd.func34, chk_fwin_does_1⟩
    · cases h; exact ⟨_, Tryd.func40, chk_series_Is_1⟩
    · cases h; exact ⟨_, Tryd.func39, chk_slices_ContainsFunc_api_Val_api_Val⟩
    · cases h
    · cases h; exact ⟨_, Tryd.func44, chk_r1_plus⟩
    · cases h; exact ⟨_, Tryd.func45, chk_r1_MulDiv⟩
    · cases h; exact ⟨_, Tryd.func46, chk_fixed_Of⟩
    · cases h; exact ⟨_, Tryd.func47, chk_agg_Known⟩
    · cases h; exact ⟨_, Tryd.func49, chk_fwin_sorted_1⟩
    · cases h
    · cases h; exact ⟨_, Tryd.func52, chk_fixed_MulDiv⟩
    · cases h; exact ⟨_, Tryd.func51, chk_series_Own⟩
    · cases h; exact ⟨_, Tryd.func36, chk_agg_Of⟩
    · cases h; exact ⟨_, Tryd.func53, chk_series_Cons⟩
    · cases h; exact ⟨_, Tryd.func54, chk_series_within⟩
    · cases h; exact ⟨_, Tryd.func59, chk_fixed_Mul⟩
    · cases h; exact ⟨_, Tryd.func60, chk_fixed_Sqrt⟩
    · cases h; exact ⟨_, Tryd.func58, chk_fixed_Sub⟩
    · cases h; exact ⟨_, Tryd.func55, chk_fixed_Add⟩
    · cases h; exact ⟨_, Tryd.func56, chk_fixed_Div⟩
    · cases h; exact ⟨_, Tryd.func35, chk_fwin_does_1_1⟩
    · cases h; exact ⟨_, Tryd.func41, chk_fixed_Is⟩
    · cases h; exact ⟨_, Tryd.func61, chk_slices_IndexFunc_api_Val_api_Val⟩
    · cases h; exact ⟨_, Tryd.func67, chk_r1_size⟩
    · cases h; exact ⟨_, Tryd.func66, chk_r1_times⟩
    · cases h; exact ⟨_, Tryd.func50, chk_cmp_Compare_int⟩
    · cases h; exact ⟨_, Tryd.func72, chk_fixed_size⟩
    · cases h; exact ⟨_, Tryd.func74, chk_math_bits_Div64⟩
    · cases h; exact ⟨_, Tryd.func73, chk_math_bits_Mul64⟩
    · cases h
    · cases h; exact ⟨_, Tryd.func57, chk_fixed_Less⟩
    · cases h; exact ⟨_, Tryd.func75, chk_series_within_1⟩
    · cases h; exact ⟨_, Tryd.func77, chk_fixed_known⟩
    · cases h; exact ⟨_, Tryd.func78, chk_fixed_val⟩
    · cases h; exact ⟨_, Tryd.func76, chk_fixed_sum⟩
    · cases h; exact ⟨_, Tryd.func70, chk_cmp_isNaN_int⟩
    · cases h; exact ⟨_, Tryd.func92, chk_math_bits_LeadingZeros64⟩
    · cases h; exact ⟨_, Tryd.func91, chk_math_bits_Len64⟩
    · cases h
  prim f g h := by
    simp only [Γ] at h
    split at h
    · cases h
    · cases h
    · cases h
    · cases h
    · cases h
    · cases h
    · cases h
    · cases h
    · cases h
    · cases h
    · cases h
    · cases h
    · cases h
    · cases h
    · cases h
    · cases h
    · cases h
    · cases h
    · cases h
    · cases h
    · cases h
    · cases h
    · cases h
    · cases h
    · cases h
    · cases h
    · cases h
    · cases h
    · cases h
    · cases h
    · cases h
    · cases h; exact prim_itoa (gv := 154) (by kernel_rfl) (by kernel_rfl) row_strconv_Itoa
    · cases h
    · cases h
    · cases h
    · cases h
    · cases h
    · cases h; exact prim_join row_strings_Join
    · cases h
    · cases h
    · cases h
    · cases h
    · cases h
    · cases h
    · cases h
    · cases h
    · cases h
    · cases h
    · cases h
    · cases h
    · cases h
    · cases h
    · cases h
    · cases h
    · cases h
    · cases h
    · cases h
    · cases h
    · cases h
    · cases h
    · cases h
    · cases h
    · cases h
    · cases h
    · cases h
    · cases h
    · cases h
    · cases h
    · cases h
    · cases h
    · cases h
    · cases h
    · cases h
  fresh f g h := by
    simp only [Γ] at h
    split at h
    · cases h
    · cases h
    · cases h
    · cases h
    · cases h
    · cases h
    · cases h
    · cases h
    · cases h
    · cases h
    · cases h
    · cases h
    · cases h
    · cases h
    · cases h
    · cases h
    · cases h
    · cases h
    · cases h
    · cases h
    · cases h
    · cases h
    · cases h
    · cases h
    · cases h
    · cases h
    · cases h
    · cases h
    · cases h
    · cases h
    · cases h
    · cases h
    · cases h
    · cases h
    · cases h
    · cases h
    · cases h
    · cases h
    · cases h
    · cases h
    · cases h
    · cases h
    · cases h
    · cases h
    · cases h
    · cases h
    · cases h
    · cases h
    · cases h
    · cases h
    · cases h
    · cases h
    · cases h
    · cases h
    · cases h
    · cases h
    · cases h
    · cases h
    · cases h
    · cases h
    · cases h
    · cases h
    · cases h
    · cases h; exact fresh_clone row_slices_Clone_api_Val_api_Val
    · cases h
    · cases h
    · cases h
    · cases h
    · cases h
    · cases h
    · cases h
    · cases h
    · cases h
  upd f g h := by
    simp only [Γ] at h
    split at h
    · cases h
    · cases h
    · cases h
    · cases h
    · cases h
    · cases h
    · cases h
    · cases h
    · cases h
    · cases h
    · cases h
    · cases h
    · cases h
    · cases h
    · cases h
    · cases h
    · cases h
    · cases h
    · cases h
    · cases h
    · cases h
    · cases h
    · cases h
    · cases h
    · cases h
    · cases h
    · cases h
    · cases h
    · cases h
    · cases h
    · cases h
    · cases h
    · cases h
    · cases h
    · cases h
    · cases h
    · cases h
    · cases h
    · cases h
    · cases h
    · cases h
    · cases h
    · cases h
    · cases h; exact upd_sort row_slices_SortFunc_api_Val_api_Val
    · cases h
    · cases h
    · cases h
    · cases h
    · cases h
    · cases h
    · cases h
    · cases h
    · cases h
    · cases h
    · cases h
    · cases h
    · cases h
    · cases h
    · cases h
    · cases h
    · cases h
    · cases h
    · cases h
    · cases h
    · cases h
    · cases h
    · cases h
    · cases h
    · cases h
    · cases h
    · cases h
    · cases h
    · cases h
end Ab
