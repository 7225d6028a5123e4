import Derived.Test.YtmggokdhhbaphaaDoorCode
import Derived.Test.YtmggokdhhbaphaaDoorAbB4
import Derived.KernelRfl
import Derived.Test.YtmggokdhhbaphaaDoorProg
namespace Ab
open Go Go.Proofs
def names : Names := ⟨fun n => [0, 34, 11, 33, 1, 12, 13, 14, 15, 18, 19, 17, 16, 22, 23, 21, 20, 25, 24, 26, 27, 28, 30, 29, 32, 31, 36, 35, 37, 39, 40, 38, 43, 42, 41, 47, 46, 45, 44, 51, 50, 49, 48, 52, 53, 54, 55, 56, 60, 61, 63, 62, 64, 65, 67, 66, 68, 69, 70, 71, 77, 76, 75, 78, 79, 80, 82, 85, 84, 83, 86, 90, 89, 91, 92, 93, 74, 94, 0, 73, 0, 0, 95, 59, 58, 57, 81, 87, 88, 72, 3, 4, 5, 6, 7, 8, 9, 10, 0, 0, 0, 0, 0, 0, 0, 0, 0, 0, 0, 0, 0, 0, 0, 0, 0, 0, 0, 0, 0, 0, 0, 0, 0, 0, 0, 0, 0, 0, 0, 0, 0, 0, 0, 0, 0, 0, 0, 0, 0, 0, 0, 0, 0, 0, 0, 0, 0, 0, 0, 0, 0, 0, 0, 0, 0, 0, 0, 0, 0, 0, 0, 0, 0, 0, 0, 0, 0, 0, 0, 0, 0, 0, 0, 0, 0, 0, 0, 0, 0, 0, 0, 0, 0, 0, 0, 0, 0, 0, 0, 0, 0, 0, 0, 0, 0, 0, 0, 0, 0, 0, 0, 0, 0, 0, 0, 0, 0, 0, 0, 0, 0, 0, 0, 0, 0].getD n 0, fun n => [0, 0, 0, 0, 0, 0, 0, 0, 0, 0, 0, 0, 0, 0, 0, 0, 0, 0, 0, 0, 0, 0, 0, 0, 0, 0, 0, 0, 0, 0, 0, 0, 0, 0, 0, 0, 0, 0, 0, 0, 0, 0, 0, 0, 0, 0, 0, 0, 0, 0, 0, 0, 0, 0, 0, 0, 0, 0, 0, 0, 0, 0, 0, 0, 0, 0, 0, 0, 0, 0, 0, 0, 0, 0, 0, 0, 0, 0, 0, 0, 2, 1, 0, 0, 0, 0, 0, 0, 0, 0, 0, 0, 0, 0, 0, 0, 0, 0, 0, 0, 0, 0, 0, 0, 0, 0, 0, 0, 0, 0, 0, 0, 0, 0, 0, 0, 0, 0, 0, 0, 0, 0, 0, 0, 0, 0, 0, 0, 0, 0, 0, 0, 0, 0, 0, 0, 0, 0, 0, 0, 0, 0, 0, 0, 0, 0, 0, 0, 0, 0, 0, 0, 0, 0, 0, 0, 0, 0, 0, 0, 0, 0, 0, 0, 0, 0, 0, 0, 0, 0, 0, 0, 0, 0, 0, 0, 0, 0, 0, 0, 0, 0, 0, 0, 0, 0, 0, 0, 0, 0, 0, 0, 0, 0, 0, 0, 0, 0, 0, 0, 0, 0, 0, 0, 0, 0, 0, 0, 0, 0, 0, 0, 0, 0, 0].getD n 0⟩
theorem chk_l9_GlobExpands : chkF Tryd.prog names Tryd.f5 l9_GlobExpands = true := by kernel_rfl
theorem chk_l9_GlobPlain : chkF Tryd.prog names Tryd.f6 l9_GlobPlain = true := by kernel_rfl
theorem chk_l9_GlobStars : chkF Tryd.prog names Tryd.f7 l9_GlobStars = true := by kernel_rfl
theorem chk_l9_GlobChoices : chkF Tryd.prog names Tryd.f8 l9_GlobChoices = true := by kernel_rfl
theorem chk_l9_GlobMatches : chkF Tryd.prog names Tryd.f9 l9_GlobMatches = true := by kernel_rfl
theorem chk_l9_GlobParts : chkF Tryd.prog names Tryd.f10 l9_GlobParts = true := by kernel_rfl
theorem chk_glob_Expand : chkF Tryd.prog names Tryd.f20 glob_Expand = true := by kernel_rfl
theorem chk_l9_known : chkF Tryd.prog names Tryd.f23 l9_known = true := by kernel_rfl
theorem chk_l9_texts : chkF Tryd.prog names Tryd.f22 l9_texts = true := by kernel_rfl
theorem chk_r9_Expand : chkF Tryd.prog names Tryd.f21 r9_Expand = true := by kernel_rfl
theorem chk_glob_Match : chkF Tryd.prog names Tryd.f25 glob_Match = true := by kernel_rfl
theorem chk_r9_Plain : chkF Tryd.prog names Tryd.f24 r9_Plain = true := by kernel_rfl
theorem chk_l9_plain : chkF Tryd.prog names Tryd.f26 l9_plain = true := by kernel_rfl
theorem chk_glob_Plain : chkF Tryd.prog names Tryd.f28 glob_Plain = true := by kernel_rfl
theorem chk_r9_Match : chkF Tryd.prog names Tryd.f27 r9_Match = true := by kernel_rfl
theorem chk_glob_Parts : chkF Tryd.prog names Tryd.f29 glob_Parts = true := by kernel_rfl
theorem chk_r9_Parts : chkF Tryd.prog names Tryd.f30 r9_Parts = true := by kernel_rfl
theorem chk_glob_reader_row : chkF Tryd.prog names Tryd.f45 glob_reader_row = true := by kernel_rfl
theorem chk_glob_balanced : chkF Tryd.prog names Tryd.f44 glob_balanced = true := by kernel_rfl
theorem chk_glob_pieces : chkF Tryd.prog names Tryd.f47 glob_pieces = true := by kernel_rfl
theorem chk_name_Parts : chkF Tryd.prog names Tryd.f46 name_Parts = true := by kernel_rfl
theorem chk_r8_Parts : chkF Tryd.prog names Tryd.f50 r8_Parts = true := by kernel_rfl
theorem chk_r9_all : chkF Tryd.prog names Tryd.f49 r9_all = true := by kernel_rfl
theorem chk_r9_braces : chkF Tryd.prog names Tryd.f48 r9_braces = true := by kernel_rfl
theorem chk_r9_simple : chkF Tryd.prog names Tryd.f51 r9_simple = true := by kernel_rfl
theorem chk_r8_Byte : chkF Tryd.prog names Tryd.f52 r8_Byte = true := by kernel_rfl
theorem chk_strings_ContainsAny : chkF Tryd.prog names Tryd.f54 strings_ContainsAny = true := by kernel_rfl
theorem chk_r9_matches : chkF Tryd.prog names Tryd.f53 r9_matches = true := by kernel_rfl
theorem chk_glob_reader_choice : chkF Tryd.prog names Tryd.f63 glob_reader_choice = true := by kernel_rfl
theorem chk_glob_reader_times : chkF Tryd.prog names Tryd.f62 glob_reader_times = true := by kernel_rfl
theorem chk_strings_IndexAny : chkF Tryd.prog names Tryd.f32 strings_IndexAny = true := by kernel_rfl
theorem chk_glob_piece_fills : chkF Tryd.prog names Tryd.f65 glob_piece_fills = true := by kernel_rfl
theorem chk_glob_class : chkF Tryd.prog names Tryd.f67 glob_class = true := by kernel_rfl
theorem chk_name_Is : chkF Tryd.prog names Tryd.f68 name_Is = true := by kernel_rfl
theorem chk_strings_IndexByte : chkF Tryd.prog names Tryd.f66 strings_IndexByte = true := by kernel_rfl
theorem chk_strings_Split : chkF Tryd.prog names Tryd.f64 strings_Split = true := by kernel_rfl
theorem chk_r9_ends : chkF Tryd.prog names Tryd.f69 r9_ends = true := by kernel_rfl
theorem chk_r9_class : chkF Tryd.prog names Tryd.f70 r9_class = true := by kernel_rfl
theorem chk_r9_in : chkF Tryd.prog names Tryd.f71 r9_in = true := by kernel_rfl
theorem chk_strings_asciiSet_contains : chkF Tryd.prog names Tryd.f59 strings_asciiSet_contains = true := by kernel_rfl
theorem chk_strings_IndexRune : chkF Tryd.prog names Tryd.f56 strings_IndexRune = true := by kernel_rfl
theorem chk_strings_makeASCIISet : chkF Tryd.prog names Tryd.f58 strings_makeASCIISet = true := by kernel_rfl
theorem chk_strings_shouldUseASCIISet : chkF Tryd.prog names Tryd.f57 strings_shouldUseASCIISet = true := by kernel_rfl
theorem chk_name_isByte : chkF Tryd.prog names Tryd.f80 name_isByte = true := by kernel_rfl
theorem chk_internal_stringslite_IndexByte : chkF Tryd.prog names Tryd.f79 internal_stringslite_IndexByte = true := by kernel_rfl
theorem chk_strings_genSplit : chkF Tryd.prog names Tryd.f78 strings_genSplit = true := by kernel_rfl
theorem chk_internal_bytealg_Cutover : chkF Tryd.prog names Tryd.f73 internal_bytealg_Cutover = true := by kernel_rfl
theorem chk_unicode_utf8_ValidRune : chkF Tryd.prog names Tryd.f72 unicode_utf8_ValidRune = true := by kernel_rfl
theorem chk_strings_Count : chkF Tryd.prog names Tryd.f84 strings_Count = true := by kernel_rfl
theorem chk_strings_Index : chkF Tryd.prog names Tryd.f85 strings_Index = true := by kernel_rfl
theorem chk_strings_explode : chkF Tryd.prog names Tryd.f83 strings_explode = true := by kernel_rfl
theorem chk_unicode_utf8_RuneCountInString : chkF Tryd.prog names Tryd.f89 unicode_utf8_RuneCountInString = true := by kernel_rfl
theorem chk_internal_stringslite_Index : chkF Tryd.prog names Tryd.f92 internal_stringslite_Index = true := by kernel_rfl
theorem chk_unicode_utf8_DecodeRuneInString : chkF Tryd.prog names Tryd.f90 unicode_utf8_DecodeRuneInString = true := by kernel_rfl
theorem chk_internal_bytealg_IndexRabinKarp_string : chkF Tryd.prog names Tryd.f94 internal_bytealg_IndexRabinKarp_string = true := by kernel_rfl
theorem chk_unicode_utf8_decodeRuneInStringSlow : chkF Tryd.prog names Tryd.f93 unicode_utf8_decodeRuneInStringSlow = true := by kernel_rfl
theorem chk_internal_bytealg_hashStr_string : chkF Tryd.prog names Tryd.f95 internal_bytealg_hashStr_string = true := by kernel_rfl
theorem row_internal_bytealg_IndexByteString : RowFor Tryd.prog 86 Go.Extern.BytealgIndexByte.indexByte := ⟨Tryd.f86, by kernel_rfl, by kernel_rfl, by kernel_rfl, by kernel_rfl, by kernel_rfl⟩
theorem row_internal_bytealg_CountString : RowFor Tryd.prog 91 Go.Extern.BytealgCount.count := ⟨Tryd.f91, by kernel_rfl, by kernel_rfl, by kernel_rfl, by kernel_rfl, by kernel_rfl⟩
theorem known : Known Γ names Tryd.prog where
  mixed := by kernel_rfl
  code f fn h := by
    simp only [Γ] at h
    split at h
    · cases h; exact ⟨_, Tryd.func5, chk_l9_GlobExpands⟩
    · cases h; exact ⟨_, Tryd.func6, chk_l9_GlobPlain⟩
    · cases h; exact ⟨_, Tryd.func7, chk_l9_GlobStars⟩
    · cases h; exact ⟨_, Tryd.func8, chk_l9_GlobChoices⟩
    · cases h; exact ⟨_, Tryd.func9, chk_l9_GlobMatches⟩
    · cases h; exact ⟨_, Tryd.func10, chk_l9_GlobParts⟩
    · cases h; exact ⟨_, Tryd.func20, chk_glob_Expand⟩
    · cases h; exact ⟨_, Tryd.func23, chk_l9_known⟩
    · cases h; exact ⟨_, Tryd.func22, chk_l9_texts⟩
    · cases h; exact ⟨_, Tryd.func21, chk_r9_Expand⟩
    · cases h; exact ⟨_, Tryd.func25, chk_glob_Match⟩
    · cases h; exact ⟨_, Tryd.func24, chk_r9_Plain⟩
    · cases h; exact ⟨_, Tryd.func26, chk_l9_plain⟩
    · cases h; exact ⟨_, Tryd.func28, chk_glob_Plain⟩
    · cases h; exact ⟨_, Tryd.func27, chk_r9_Match⟩
    · cases h; exact ⟨_, Tryd.func29, chk_glob_Parts⟩
    · cases h; exact ⟨_, Tryd.func30, chk_r9_Parts⟩
    · cases h; exact ⟨_, Tryd.func45, chk_glob_reader_row⟩
    · cases h; exact ⟨_, Tryd.func44, chk_glob_balanced⟩
    · cases h; exact ⟨_, Tryd.func47, chk_glob_pieces⟩
    · cases h; exact ⟨_, Tryd.func46, chk_name_Parts⟩
    · cases h; exact ⟨_, Tryd.func50, chk_r8_Parts⟩
    · cases h; exact ⟨_, Tryd.func49, chk_r9_all⟩
    · cases h; exact ⟨_, Tryd.func48, chk_r9_braces⟩
    · cases h; exact ⟨_, Tryd.func51, chk_r9_simple⟩
    · cases h; exact ⟨_, Tryd.func52, chk_r8_Byte⟩
    · cases h; exact ⟨_, Tryd.func54, chk_strings_ContainsAny⟩
    · cases h; exact ⟨_, Tryd.func53, chk_r9_matches⟩
    · cases h; exact ⟨_, Tryd.func63, chk_glob_reader_choice⟩
    · cases h; exact ⟨_, Tryd.func62, chk_glob_reader_times⟩
    · cases h; exact ⟨_, Tryd.func32, chk_strings_IndexAny⟩
    · cases h; exact ⟨_, Tryd.func65, chk_glob_piece_fills⟩
    · cases h; exact ⟨_, Tryd.func67, chk_glob_class⟩
    · cases h; exact ⟨_, Tryd.func68, chk_name_Is⟩
    · cases h; exact ⟨_, Tryd.func66, chk_strings_IndexByte⟩
    · cases h; exact ⟨_, Tryd.func64, chk_strings_Split⟩
    · cases h; exact ⟨_, Tryd.func69, chk_r9_ends⟩
    · cases h; exact ⟨_, Tryd.func70, chk_r9_class⟩
    · cases h; exact ⟨_, Tryd.func71, chk_r9_in⟩
    · cases h; exact ⟨_, Tryd.func59, chk_strings_asciiSet_contains⟩
    · cases h; exact ⟨_, Tryd.func56, chk_strings_IndexRune⟩
    · cases h; exact ⟨_, Tryd.func58, chk_strings_makeASCIISet⟩
    · cases h; exact ⟨_, Tryd.func57, chk_strings_shouldUseASCIISet⟩
    · cases h; exact ⟨_, Tryd.func80, chk_name_isByte⟩
    · cases h; exact ⟨_, Tryd.func79, chk_internal_stringslite_IndexByte⟩
    · cases h; exact ⟨_, Tryd.func78, chk_strings_genSplit⟩
    · cases h; exact ⟨_, Tryd.func73, chk_internal_bytealg_Cutover⟩
    · cases h; exact ⟨_, Tryd.func72, chk_unicode_utf8_ValidRune⟩
    · cases h
    · cases h; exact ⟨_, Tryd.func84, chk_strings_Count⟩
    · cases h; exact ⟨_, Tryd.func85, chk_strings_Index⟩
    · cases h; exact ⟨_, Tryd.func83, chk_strings_explode⟩
    · cases h
    · cases h; exact ⟨_, Tryd.func89, chk_unicode_utf8_RuneCountInString⟩
    · cases h; exact ⟨_, Tryd.func92, chk_internal_stringslite_Index⟩
    · cases h; exact ⟨_, Tryd.func90, chk_unicode_utf8_DecodeRuneInString⟩
    · cases h; exact ⟨_, Tryd.func94, chk_internal_bytealg_IndexRabinKarp_string⟩
    · cases h; exact ⟨_, Tryd.func93, chk_unicode_utf8_decodeRuneInStringSlow⟩
    · cases h; exact ⟨_, Tryd.func95, chk_internal_bytealg_hashStr_string⟩
    · cases h
  prim f g h := by
    simp only [Γ] at h
    split at h
    · cases h
    · cases h
    · cases h
    · cases h
    · cases h
    · cases h
    · cases h
    · cases h
    · cases h
    · cases h
    · cases h
    · cases h
    · cases h
    · cases h
    · cases h
    · cases h
    · cases h
    · cases h
    · cases h
    · cases h
    · cases h
    · cases h
    · cases h
    · cases h
    · cases h
    · cases h
    · cases h
    · cases h
    · cases h
    · cases h
    · cases h
    · cases h
    · cases h
    · cases h
    · cases h
    · cases h
    · cases h
    · cases h
    · cases h
    · cases h
    · cases h
    · cases h
    · cases h
    · cases h
    · cases h
    · cases h
    · cases h
    · cases h
    · cases h; exact prim_indexByte row_internal_bytealg_IndexByteString
    · cases h
    · cases h
    · cases h
    · cases h; exact prim_count row_internal_bytealg_CountString
    · cases h
    · cases h
    · cases h
    · cases h
    · cases h
    · cases h
    · cases h
  fresh f g h := by
    simp only [Γ] at h
    split at h
    · cases h
    · cases h
    · cases h
    · cases h
    · cases h
    · cases h
    · cases h
    · cases h
    · cases h
    · cases h
    · cases h
    · cases h
    · cases h
    · cases h
    · cases h
    · cases h
    · cases h
    · cases h
    · cases h
    · cases h
    · cases h
    · cases h
    · cases h
    · cases h
    · cases h
    · cases h
    · cases h
    · cases h
    · cases h
    · cases h
    · cases h
    · cases h
    · cases h
    · cases h
    · cases h
    · cases h
    · cases h
    · cases h
    · cases h
    · cases h
    · cases h
    · cases h
    · cases h
    · cases h
    · cases h
    · cases h
    · cases h
    · cases h
    · cases h
    · cases h
    · cases h
    · cases h
    · cases h
    · cases h
    · cases h
    · cases h
    · cases h
    · cases h
    · cases h
    · cases h
  upd f g h := by
    simp only [Γ] at h
    split at h
    · cases h
    · cases h
    · cases h
    · cases h
    · cases h
    · cases h
    · cases h
    · cases h
    · cases h
    · cases h
    · cases h
    · cases h
    · cases h
    · cases h
    · cases h
    · cases h
    · cases h
    · cases h
    · cases h
    · cases h
    · cases h
    · cases h
    · cases h
    · cases h
    · cases h
    · cases h
    · cases h
    · cases h
    · cases h
    · cases h
    · cases h
    · cases h
    · cases h
    · cases h
    · cases h
    · cases h
    · cases h
    · cases h
    · cases h
    · cases h
    · cases h
    · cases h
    · cases h
    · cases h
    · cases h
    · cases h
    · cases h
    · cases h
    · cases h
    · cases h
    · cases h
    · cases h
    · cases h
    · cases h
    · cases h
    · cases h
    · cases h
    · cases h
    · cases h
    · cases h
end Ab
