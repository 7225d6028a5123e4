import Derived.Test.YtcjkmikiinljmaaGreatDoorCode
import Derived.Test.YtcjkmikiinljmaaGreatDoorLClone
import Derived.Test.YtcjkmikiinljmaaGreatDoorSortSeat
import Derived.Test.YtcjkmikiinljmaaGreatDoorShelf
import Derived.Test.YtcjkmikiinljmaaGreatDoorAbB3
import Derived.KernelRfl
import Derived.Test.YtcjkmikiinljmaaGreatDoorProg
namespace Ab
open Go Go.Proofs
def names : Names := ⟨fun n => [0, 0, 0, 0, 1, 0, 0, 0, 0, 0, 0, 0, 0, 0, 0, 0, 0, 0, 0, 0, 0, 0, 0, 0, 0, 0, 0, 0, 99, 37, 40, 144, 51, 52, 47, 0, 0, 0, 0, 0, 0, 0, 0, 0, 0, 0, 0, 166, 77, 161, 0, 0, 0, 0, 0, 186, 0, 0, 0, 0, 122, 121, 120, 0, 199, 0, 152, 0, 0, 0, 203, 165, 0, 0, 0, 185, 189, 0, 0, 188, 0, 0, 0, 148, 117, 0, 151, 167, 168, 187, 0, 0, 0, 0, 0, 0, 0, 0, 0, 0, 0, 0, 0, 0, 0, 74, 0, 98, 0, 0, 0, 110, 0, 22, 115, 61, 63, 0, 142, 143, 33, 135, 90, 91, 92, 0, 38, 160, 130, 95, 128, 89, 100, 133, 134, 82, 102, 68, 83, 136, 78, 44, 106, 107, 125, 124, 105, 154, 153, 140, 169, 0, 0, 180, 0, 0, 0, 0, 114, 112, 0, 0, 81, 0, 155, 145, 146, 170, 156, 123, 162, 0, 0, 0, 104, 103, 65, 101, 132, 129, 93, 131, 137, 138, 139, 158, 157, 159, 179, 178, 177, 176, 175, 174, 173, 172, 171, 192, 191, 194, 193, 190, 200, 0, 71, 97, 0, 0, 0, 0, 0, 26, 0, 0, 0, 20, 24, 23, 21, 25, 27, 28, 29, 32, 31, 30, 41, 39, 36, 35, 34, 43, 46, 45, 54, 53, 48, 50, 49, 76, 75, 42, 55, 57, 58, 59, 60, 62, 64, 66, 67, 69, 70, 72, 73, 80, 79, 86, 84, 85, 88, 87, 94, 96, 119, 118, 116, 56, 113, 111, 108, 109, 126, 127, 150, 149, 141, 164, 3, 4, 5, 6, 7, 8, 9, 10, 11, 12, 13, 14, 15, 16, 17, 18, 19, 0, 0, 0, 0, 0, 0, 0, 0, 0, 0, 0, 0, 0, 0, 0, 0, 0, 0, 0, 0, 0, 0, 0, 0, 0, 0, 0, 0, 0, 0, 0, 0, 0, 0, 0, 0, 0, 0, 0, 0, 0, 0, 0, 0, 0, 0, 0, 0, 0, 0, 0, 0, 0, 0, 0, 0, 0, 0, 0, 0, 0, 0, 0, 0, 0, 0, 0, 0, 0, 0, 0, 0, 0, 0, 0, 0, 0, 0, 0, 0, 0, 0, 0, 0, 0, 0, 0, 0, 0, 0, 0, 0].getD n 0, fun n => [0, 0, 0, 0, 0, 0, 0, 0, 0, 0, 0, 0, 0, 0, 0, 0, 0, 0, 0, 0, 0, 0, 0, 0, 0, 0, 0, 0, 0, 0, 0, 0, 0, 0, 0, 0, 0, 0, 0, 0, 0, 0, 0, 0, 0, 0, 0, 0, 0, 0, 0, 0, 0, 0, 0, 0, 0, 0, 0, 0, 0, 0, 0, 0, 0, 0, 0, 0, 0, 0, 0, 0, 0, 0, 0, 0, 0, 0, 2, 0, 5, 4, 0, 0, 0, 0, 0, 0, 0, 0, 0, 0, 0, 0, 0, 0, 0, 0, 0, 0, 0, 0, 0, 0, 0, 0, 0, 0, 0, 0, 0, 0, 0, 0, 0, 0, 0, 0, 0, 0, 0, 0, 0, 0, 0, 0, 0, 0, 0, 0, 0, 0, 0, 0, 0, 0, 0, 0, 0, 0, 0, 0, 0, 0, 0, 0, 0, 0, 0, 0, 0, 1, 0, 0, 3, 0, 0, 0, 0, 0, 0, 0, 0, 0, 0, 0, 0, 0, 0, 0, 0, 0, 0, 0, 0, 0, 0, 0, 0, 0, 0, 0, 0, 0, 0, 0, 0, 0, 0, 0, 0, 0, 0, 0, 0, 0, 0, 0, 0, 0, 0, 0, 0, 0, 0, 0, 0, 0, 0, 0, 0, 0, 0, 0, 0, 0, 0, 0, 0, 0, 0, 0, 0, 0, 0, 0, 0, 0, 0, 0, 0, 0, 0, 0, 0, 0, 0, 0, 0, 0, 0, 0, 0, 0, 0, 0, 0, 0, 0, 0, 0, 0, 0, 0, 0, 0, 0, 0, 0, 0, 0, 0, 0, 0, 0, 0, 0, 0, 0, 0, 0, 0, 0, 0, 0, 0, 0, 0, 0, 0, 0, 0, 0, 0, 0, 0, 0, 0, 0, 0, 0, 0, 0, 0, 0, 0, 0, 0, 0, 0, 0, 0, 0, 0, 0, 0, 0, 0, 0, 0, 0, 0, 0, 0, 0, 0, 0, 0, 0, 0, 0, 0, 0, 0, 0, 0, 0, 0, 0, 0, 0, 0, 0, 0, 0, 0, 0, 0, 0, 0, 0, 0, 0, 0, 0, 0, 0, 0, 0, 0, 0, 0, 0, 0, 0, 0, 0, 0, 0, 0, 0, 0, 0, 0, 0, 0, 0, 0, 0, 0, 0, 0, 0, 0, 0, 0, 0, 0, 0, 0, 0, 0, 0, 0, 0, 0, 0].getD n 0⟩
theorem row_internal_bytealg_IndexByteString : RowFor Tryz.prog 203 Go.Extern.BytealgIndexByte.indexByte := ⟨Tryz.f203, by kernel_rfl, by kernel_rfl, by kernel_rfl, by kernel_rfl, by kernel_rfl⟩
theorem row_strings_Join : JoinOk Tryz.prog 77 := ⟨Ab.enters_of Tryz.func77 (by kernel_rfl) (by kernel_rfl), fun a c sep w => Any.strings_Join_none Tryz.lays156 Tryz.Builder_Extra_156 a c sep w, fun bk o c xs sep w h1 h2 h3 h4 h5 => Any.strings_Join Tryz.lays156 Tryz.Builder_Extra_156 bk o c xs sep w h1 h2 h3 h4 h5⟩
theorem row_strconv_Itoa : ItoaOk Tryz.prog 115 := ⟨Ab.enters_of Tryz.func115 (by kernel_rfl) (by kernel_rfl), fun n h0 h1 w ht => Any.strconv_Itoa Tryz.laysM171 n h0 h1 w ht⟩
theorem row_slices_Clone_api_Val_api_Val : CloneOk Tryz.prog names 49 2 slices_Clone_api_Val_api_Val := ⟨by kernel_rfl, ⟨_, Tryz.func161, by kernel_rfl⟩, by decide, clone_nil, clone_mem⟩
theorem row_slices_SortFunc_api_Val_api_Val : SortOk Tryz.prog 137 138 := Tryz.sortOk
set_option maxHeartbeats 8000000 in
set_option maxRecDepth 100000 in
theorem known : Known Γ names Tryz.prog where
  mixed := by kernel_rfl
  code f fn h := by
    simp only [Γ] at h
    split at h <;> try (cases h; done)
    · cases h; exact ⟨_, Tryz.func17, by kernel_rfl⟩
    · cases h; exact ⟨_, Tryz.func18, by kernel_rfl⟩
    · cases h; exact ⟨_, Tryz.func27, by kernel_rfl⟩
    · cases h; exact ⟨_, Tryz.func45, by kernel_rfl⟩
    · cases h; exact ⟨_, Tryz.func32, by kernel_rfl⟩
    · cases h; exact ⟨_, Tryz.func21, by kernel_rfl⟩
    · cases h; exact ⟨_, Tryz.func24, by kernel_rfl⟩
    · cases h; exact ⟨_, Tryz.func25, by kernel_rfl⟩
    · cases h; exact ⟨_, Tryz.func30, by kernel_rfl⟩
    · cases h; exact ⟨_, Tryz.func46, by kernel_rfl⟩
    · cases h; exact ⟨_, Tryz.func83, by kernel_rfl⟩
    · cases h; exact ⟨_, Tryz.func85, by kernel_rfl⟩
    · cases h; exact ⟨_, Tryz.func84, by kernel_rfl⟩
    · cases h; exact ⟨_, Tryz.func86, by kernel_rfl⟩
    · cases h; exact ⟨_, Tryz.func54, by kernel_rfl⟩
    · cases h; exact ⟨_, Tryz.func23, by kernel_rfl⟩
    · cases h; exact ⟨_, Tryz.func43, by kernel_rfl⟩
    · cases h; exact ⟨_, Tryz.func47, by kernel_rfl⟩
    · cases h; exact ⟨_, Tryz.func88, by kernel_rfl⟩
    · cases h; exact ⟨_, Tryz.func87, by kernel_rfl⟩
    · cases h; exact ⟨_, Tryz.func125, by kernel_rfl⟩
    · cases h; exact ⟨_, Tryz.func105, by kernel_rfl⟩
    · cases h; exact ⟨_, Tryz.func124, by kernel_rfl⟩
    · cases h; exact ⟨_, Tryz.func68, by kernel_rfl⟩
    · cases h; exact ⟨_, Tryz.func103, by kernel_rfl⟩
    · cases h; exact ⟨_, Tryz.func39, by kernel_rfl⟩
    · cases h; exact ⟨_, Tryz.func35, by kernel_rfl⟩
    · cases h; exact ⟨_, Tryz.func126, by kernel_rfl⟩
    · cases h; exact ⟨_, Tryz.func40, by kernel_rfl⟩
    · cases h; exact ⟨_, Tryz.func127, by kernel_rfl⟩
    · cases h; exact ⟨_, Tryz.func99, by kernel_rfl⟩
    · cases h; exact ⟨_, Tryz.func37, by kernel_rfl⟩
    · cases h; exact ⟨_, Tryz.func36, by kernel_rfl⟩
    · cases h; exact ⟨_, Tryz.func38, by kernel_rfl⟩
    · cases h; exact ⟨_, Tryz.func41, by kernel_rfl⟩
    · cases h; exact ⟨_, Tryz.func34, by kernel_rfl⟩
    · cases h; exact ⟨_, Tryz.func79, by kernel_rfl⟩
    · cases h; exact ⟨_, Tryz.func81, by kernel_rfl⟩
    · cases h; exact ⟨_, Tryz.func22, by kernel_rfl⟩
    · cases h; exact ⟨_, Tryz.func80, by kernel_rfl⟩
    · cases h; exact ⟨_, Tryz.func128, by kernel_rfl⟩
    · cases h; exact ⟨_, Tryz.func95, by kernel_rfl⟩
    · cases h; exact ⟨_, Tryz.func129, by kernel_rfl⟩
    · cases h; exact ⟨_, Tryz.func52, by kernel_rfl⟩
    · cases h; exact ⟨_, Tryz.func53, by kernel_rfl⟩
    · cases h; exact ⟨_, Tryz.func90, by kernel_rfl⟩
    · cases h; exact ⟨_, Tryz.func153, by kernel_rfl⟩
    · cases h; exact ⟨_, Tryz.func154, by kernel_rfl⟩
    · cases h; exact ⟨_, Tryz.func140, by kernel_rfl⟩
    · cases h; exact ⟨_, Tryz.func107, by kernel_rfl⟩
    · cases h; exact ⟨_, Tryz.func76, by kernel_rfl⟩
    · cases h; exact ⟨_, Tryz.func73, by kernel_rfl⟩
    · cases h; exact ⟨_, Tryz.func42, by kernel_rfl⟩
    · cases h; exact ⟨_, Tryz.func100, by kernel_rfl⟩
    · cases h; exact ⟨_, Tryz.func74, by kernel_rfl⟩
    · cases h; exact ⟨_, Tryz.func75, by kernel_rfl⟩
    · cases h; exact ⟨_, Tryz.func69, by kernel_rfl⟩
    · cases h; exact ⟨_, Tryz.func66, by kernel_rfl⟩
    · cases h; exact ⟨_, Tryz.func55, by kernel_rfl⟩
    · cases h; exact ⟨_, Tryz.func72, by kernel_rfl⟩
    · cases h; exact ⟨_, Tryz.func57, by kernel_rfl⟩
    · cases h; exact ⟨_, Tryz.func58, by kernel_rfl⟩
    · cases h; exact ⟨_, Tryz.func59, by kernel_rfl⟩
    · cases h; exact ⟨_, Tryz.func60, by kernel_rfl⟩
    · cases h; exact ⟨_, Tryz.func62, by kernel_rfl⟩
    · cases h; exact ⟨_, Tryz.func64, by kernel_rfl⟩
    · cases h; exact ⟨_, Tryz.func67, by kernel_rfl⟩
    · cases h; exact ⟨_, Tryz.func70, by kernel_rfl⟩
    · cases h; exact ⟨_, Tryz.func123, by kernel_rfl⟩
    · cases h; exact ⟨_, Tryz.func33, by kernel_rfl⟩
    · cases h; exact ⟨_, Tryz.func155, by kernel_rfl⟩
    · cases h; exact ⟨_, Tryz.func134, by kernel_rfl⟩
    · cases h; exact ⟨_, Tryz.func44, by kernel_rfl⟩
    · cases h; exact ⟨_, Tryz.func130, by kernel_rfl⟩
    · cases h; exact ⟨_, Tryz.func89, by kernel_rfl⟩
    · cases h; exact ⟨_, Tryz.func169, by kernel_rfl⟩
    · cases h; exact ⟨_, Tryz.func112, by kernel_rfl⟩
    · cases h; exact ⟨_, Tryz.func114, by kernel_rfl⟩
    · cases h; exact ⟨_, Tryz.func109, by kernel_rfl⟩
    · cases h; exact ⟨_, Tryz.func111, by kernel_rfl⟩
    · cases h; exact ⟨_, Tryz.func113, by kernel_rfl⟩
    · cases h; exact ⟨_, Tryz.func108, by kernel_rfl⟩
    · cases h; exact ⟨_, Tryz.func78, by kernel_rfl⟩
    · cases h; exact ⟨_, Tryz.func102, by kernel_rfl⟩
    · cases h; exact ⟨_, Tryz.func136, by kernel_rfl⟩
    · cases h; exact ⟨_, Tryz.func117, by kernel_rfl⟩
    · cases h; exact ⟨_, Tryz.func118, by kernel_rfl⟩
    · cases h; exact ⟨_, Tryz.func116, by kernel_rfl⟩
    · cases h; exact ⟨_, Tryz.func119, by kernel_rfl⟩
    · cases h; exact ⟨_, Tryz.func65, by kernel_rfl⟩
    · cases h; exact ⟨_, Tryz.func56, by kernel_rfl⟩
    · cases h; exact ⟨_, Tryz.func61, by kernel_rfl⟩
    · cases h; exact ⟨_, Tryz.func63, by kernel_rfl⟩
    · cases h; exact ⟨_, Tryz.func71, by kernel_rfl⟩
    · cases h; exact ⟨_, Tryz.func170, by kernel_rfl⟩
    · cases h; exact ⟨_, Tryz.func156, by kernel_rfl⟩
    · cases h; exact ⟨_, Tryz.func82, by kernel_rfl⟩
    · cases h; exact ⟨_, Tryz.func133, by kernel_rfl⟩
    · cases h; exact ⟨_, Tryz.func180, by kernel_rfl⟩
    · cases h; exact ⟨_, Tryz.func110, by kernel_rfl⟩
    · cases h; exact ⟨_, Tryz.func145, by kernel_rfl⟩
    · cases h; exact ⟨_, Tryz.func144, by kernel_rfl⟩
    · cases h; exact ⟨_, Tryz.func146, by kernel_rfl⟩
    · cases h; exact ⟨_, Tryz.func141, by kernel_rfl⟩
    · cases h; exact ⟨_, Tryz.func106, by kernel_rfl⟩
    · cases h; exact ⟨_, Tryz.func148, by kernel_rfl⟩
    · cases h; exact ⟨_, Tryz.func150, by kernel_rfl⟩
    · cases h; exact ⟨_, Tryz.func149, by kernel_rfl⟩
    · cases h; exact ⟨_, Tryz.func101, by kernel_rfl⟩
    · cases h; exact ⟨_, Tryz.func104, by kernel_rfl⟩
    · cases h; exact ⟨_, Tryz.func143, by kernel_rfl⟩
    · cases h; exact ⟨_, Tryz.func142, by kernel_rfl⟩
    · cases h; exact ⟨_, Tryz.func162, by kernel_rfl⟩
    · cases h; exact ⟨_, Tryz.func166, by kernel_rfl⟩
    · cases h; exact ⟨_, Tryz.func165, by kernel_rfl⟩
    · cases h; exact ⟨_, Tryz.func164, by kernel_rfl⟩
    · cases h; exact ⟨_, Tryz.func138, by kernel_rfl⟩
    · cases h; exact ⟨_, Tryz.func160, by kernel_rfl⟩
    · cases h; exact ⟨_, Tryz.func188, by kernel_rfl⟩
    · cases h; exact ⟨_, Tryz.func186, by kernel_rfl⟩
    · cases h; exact ⟨_, Tryz.func187, by kernel_rfl⟩
    · cases h; exact ⟨_, Tryz.func185, by kernel_rfl⟩
    · cases h; exact ⟨_, Tryz.func139, by kernel_rfl⟩
    · cases h; exact ⟨_, Tryz.func199, by kernel_rfl⟩
    · cases h; exact ⟨_, Tryz.func159, by kernel_rfl⟩
  prim f g h := by
    simp only [Γ] at h
    split at h <;> try (cases h; done)
    · cases h; exact prim_join row_strings_Join
    · cases h; exact prim_itoa (gv := 154) (by kernel_rfl) (by kernel_rfl) row_strconv_Itoa
    · cases h; exact prim_indexByte row_internal_bytealg_IndexByteString
  fresh f g h := by
    simp only [Γ] at h
    split at h <;> try (cases h; done)
    · cases h; exact fresh_clone row_slices_Clone_api_Val_api_Val
  upd f g h := by
    simp only [Γ] at h
    split at h <;> try (cases h; done)
    · cases h; exact upd_sort row_slices_SortFunc_api_Val_api_Val
end Ab
