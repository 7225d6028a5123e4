import Derived.Test.YtjkkipfigangaaaGreatDoorCode
import Derived.Test.YtjkkipfigangaaaGreatDoorLClone
import Derived.Test.YtjkkipfigangaaaGreatDoorSortSeat
import Derived.Test.YtjkkipfigangaaaGreatDoorShelf
import Derived.Test.YtjkkipfigangaaaGreatDoorAbB3
import Derived.KernelRfl
import Derived.Test.YtjkkipfigangaaaGreatDoorProg
namespace Ab
open Go Go.Proofs
def names : Names := ⟨fun n => [0, 0, 0, 0, 1, 0, 0, 0, 0, 0, 0, 0, 0, 0, 0, 0, 0, 0, 0, 0, 0, 0, 0, 0, 0, 0, 0, 0, 109, 20, 23, 124, 65, 66, 61, 0, 0, 0, 0, 0, 0, 0, 0, 0, 0, 0, 0, 151, 55, 146, 0, 0, 0, 0, 0, 172, 0, 0, 0, 0, 97, 96, 95, 0, 185, 0, 132, 0, 0, 0, 189, 150, 0, 0, 0, 171, 175, 0, 0, 174, 0, 0, 0, 128, 92, 0, 131, 152, 153, 173, 0, 0, 0, 0, 0, 0, 0, 0, 0, 0, 0, 0, 0, 0, 0, 52, 0, 108, 0, 0, 0, 85, 0, 7, 90, 39, 41, 0, 122, 123, 16, 138, 98, 101, 102, 0, 21, 145, 133, 105, 114, 100, 75, 136, 137, 60, 77, 46, 69, 116, 56, 27, 81, 82, 111, 110, 80, 140, 139, 120, 155, 0, 0, 166, 0, 0, 0, 0, 89, 87, 0, 0, 59, 0, 141, 125, 126, 156, 154, 99, 147, 0, 0, 0, 79, 78, 43, 76, 135, 115, 103, 134, 117, 118, 119, 143, 142, 144, 165, 164, 163, 162, 161, 160, 159, 158, 157, 178, 177, 180, 179, 176, 186, 0, 49, 107, 0, 0, 0, 0, 0, 11, 0, 0, 0, 14, 9, 8, 6, 10, 15, 12, 13, 30, 29, 28, 24, 22, 19, 18, 17, 26, 32, 31, 68, 67, 62, 64, 63, 54, 53, 25, 33, 35, 36, 37, 38, 40, 42, 44, 45, 47, 48, 50, 51, 58, 57, 72, 70, 71, 74, 73, 104, 106, 94, 93, 91, 34, 88, 86, 83, 84, 112, 113, 130, 129, 121, 149, 0, 0, 0, 0, 0, 0, 0, 0, 0, 0, 0, 0, 3, 4, 0, 0, 5, 0, 0, 0, 0, 0, 0, 0, 0, 0, 0, 0, 0, 0, 0, 0, 0, 0, 0, 0, 0, 0, 0, 0, 0, 0, 0, 0, 0, 0, 0, 0, 0, 0, 0, 0, 0, 0, 0, 0, 0, 0, 0, 0, 0, 0, 0, 0, 0, 0, 0, 0, 0, 0, 0, 0, 0, 0, 0, 0, 0, 0, 0, 0, 0, 0, 0, 0, 0, 0, 0, 0, 0, 0, 0, 0, 0, 0, 0, 0, 0, 0, 0, 0, 0, 0, 0, 0, 0, 0, 0, 0, 0, 0, 0, 0, 0, 0].getD n 0, fun n => [0, 0, 0, 0, 0, 0, 0, 0, 0, 0, 0, 0, 0, 0, 0, 0, 0, 0, 0, 0, 0, 0, 0, 0, 0, 0, 0, 0, 0, 0, 0, 0, 0, 0, 0, 0, 0, 0, 0, 0, 0, 0, 0, 0, 0, 0, 0, 0, 0, 0, 0, 0, 0, 0, 0, 0, 0, 0, 0, 0, 0, 0, 0, 0, 0, 0, 0, 0, 0, 0, 0, 0, 0, 0, 0, 0, 0, 0, 2, 0, 5, 4, 0, 0, 0, 0, 0, 0, 0, 0, 0, 0, 0, 0, 0, 0, 0, 0, 0, 0, 0, 0, 0, 0, 0, 0, 0, 0, 0, 0, 0, 0, 0, 0, 0, 0, 0, 0, 0, 0, 0, 0, 0, 0, 0, 0, 0, 0, 0, 0, 0, 0, 0, 0, 0, 0, 0, 0, 0, 0, 0, 0, 0, 0, 0, 0, 0, 0, 0, 0, 0, 1, 0, 0, 3, 0, 0, 0, 0, 0, 0, 0, 0, 0, 0, 0, 0, 0, 0, 0, 0, 0, 0, 0, 0, 0, 0, 0, 0, 0, 0, 0, 0, 0, 0, 0, 0, 0, 0, 0, 0, 0, 0, 0, 0, 0, 0, 0, 0, 0, 0, 0, 0, 0, 0, 0, 0, 0, 0, 0, 0, 0, 0, 0, 0, 0, 0, 0, 0, 0, 0, 0, 0, 0, 0, 0, 0, 0, 0, 0, 0, 0, 0, 0, 0, 0, 0, 0, 0, 0, 0, 0, 0, 0, 0, 0, 0, 0, 0, 0, 0, 0, 0, 0, 0, 0, 0, 0, 0, 0, 0, 0, 0, 0, 0, 0, 0, 0, 0, 0, 0, 0, 0, 0, 0, 0, 0, 0, 0, 0, 0, 0, 0, 0, 0, 0, 0, 0, 0, 0, 0, 0, 0, 0, 0, 0, 0, 0, 0, 0, 0, 0, 0, 0, 0, 0, 0, 0, 0, 0, 0, 0, 0, 0, 0, 0, 0, 0, 0, 0, 0, 0, 0, 0, 0, 0, 0, 0, 0, 0, 0, 0, 0, 0, 0, 0, 0, 0, 0, 0, 0, 0, 0, 0, 0, 0, 0, 0, 0, 0, 0, 0, 0, 0, 0, 0, 0, 0, 0, 0, 0, 0, 0, 0, 0, 0, 0, 0, 0, 0, 0, 0, 0, 0, 0, 0, 0, 0, 0, 0, 0, 0, 0, 0, 0, 0, 0, 0, 0, 0, 0, 0].getD n 0⟩
theorem row_internal_bytealg_IndexByteString : RowFor Tryz.prog 189 Go.Extern.BytealgIndexByte.indexByte := ⟨Tryz.f189, by kernel_rfl, by kernel_rfl, by kernel_rfl, by kernel_rfl, by kernel_rfl⟩
theorem row_strings_Join : JoinOk Tryz.prog 55 := ⟨Ab.enters_of Tryz.func55 (by kernel_rfl) (by kernel_rfl), fun a c sep w => Any.strings_Join_none Tryz.lays156 Tryz.Builder_Extra_156 a c sep w, fun bk o c xs sep w h1 h2 h3 h4 h5 => Any.strings_Join Tryz.lays156 Tryz.Builder_Extra_156 bk o c xs sep w h1 h2 h3 h4 h5⟩
theorem row_strconv_Itoa : ItoaOk Tryz.prog 90 := ⟨Ab.enters_of Tryz.func90 (by kernel_rfl) (by kernel_rfl), fun n h0 h1 w ht => Any.strconv_Itoa Tryz.laysM171 n h0 h1 w ht⟩
theorem row_slices_Clone_api_Val_api_Val : CloneOk Tryz.prog names 49 2 slices_Clone_api_Val_api_Val := ⟨by kernel_rfl, ⟨_, Tryz.func146, by kernel_rfl⟩, by decide, clone_nil, clone_mem⟩
theorem row_slices_SortFunc_api_Val_api_Val : SortOk Tryz.prog 117 118 := Tryz.sortOk
set_option maxHeartbeats 8000000 in
set_option maxRecDepth 100000 in
theorem known : Known Γ names Tryz.prog where
  mixed := by kernel_rfl
  code f fn h := by
    simp only [Γ] at h
    split at h <;> try (cases h; done)
    · cases h; exact ⟨_, Tryz.func5, by kernel_rfl⟩
    · cases h; exact ⟨_, Tryz.func12, by kernel_rfl⟩
    · cases h; exact ⟨_, Tryz.func14, by kernel_rfl⟩
    · cases h; exact ⟨_, Tryz.func9, by kernel_rfl⟩
    · cases h; exact ⟨_, Tryz.func15, by kernel_rfl⟩
    · cases h; exact ⟨_, Tryz.func13, by kernel_rfl⟩
    · cases h; exact ⟨_, Tryz.func8, by kernel_rfl⟩
    · cases h; exact ⟨_, Tryz.func30, by kernel_rfl⟩
    · cases h; exact ⟨_, Tryz.func6, by kernel_rfl⟩
    · cases h; exact ⟨_, Tryz.func10, by kernel_rfl⟩
    · cases h; exact ⟨_, Tryz.func28, by kernel_rfl⟩
    · cases h; exact ⟨_, Tryz.func29, by kernel_rfl⟩
    · cases h; exact ⟨_, Tryz.func31, by kernel_rfl⟩
    · cases h; exact ⟨_, Tryz.func32, by kernel_rfl⟩
    · cases h; exact ⟨_, Tryz.func22, by kernel_rfl⟩
    · cases h; exact ⟨_, Tryz.func20, by kernel_rfl⟩
    · cases h; exact ⟨_, Tryz.func19, by kernel_rfl⟩
    · cases h; exact ⟨_, Tryz.func21, by kernel_rfl⟩
    · cases h; exact ⟨_, Tryz.func24, by kernel_rfl⟩
    · cases h; exact ⟨_, Tryz.func17, by kernel_rfl⟩
    · cases h; exact ⟨_, Tryz.func18, by kernel_rfl⟩
    · cases h; exact ⟨_, Tryz.func23, by kernel_rfl⟩
    · cases h; exact ⟨_, Tryz.func68, by kernel_rfl⟩
    · cases h; exact ⟨_, Tryz.func26, by kernel_rfl⟩
    · cases h; exact ⟨_, Tryz.func61, by kernel_rfl⟩
    · cases h; exact ⟨_, Tryz.func66, by kernel_rfl⟩
    · cases h; exact ⟨_, Tryz.func64, by kernel_rfl⟩
    · cases h; exact ⟨_, Tryz.func67, by kernel_rfl⟩
    · cases h; exact ⟨_, Tryz.func63, by kernel_rfl⟩
    · cases h; exact ⟨_, Tryz.func62, by kernel_rfl⟩
    · cases h; exact ⟨_, Tryz.func65, by kernel_rfl⟩
    · cases h; exact ⟨_, Tryz.func69, by kernel_rfl⟩
    · cases h; exact ⟨_, Tryz.func71, by kernel_rfl⟩
    · cases h; exact ⟨_, Tryz.func70, by kernel_rfl⟩
    · cases h; exact ⟨_, Tryz.func72, by kernel_rfl⟩
    · cases h; exact ⟨_, Tryz.func74, by kernel_rfl⟩
    · cases h; exact ⟨_, Tryz.func73, by kernel_rfl⟩
    · cases h; exact ⟨_, Tryz.func54, by kernel_rfl⟩
    · cases h; exact ⟨_, Tryz.func52, by kernel_rfl⟩
    · cases h; exact ⟨_, Tryz.func53, by kernel_rfl⟩
    · cases h; exact ⟨_, Tryz.func25, by kernel_rfl⟩
    · cases h; exact ⟨_, Tryz.func47, by kernel_rfl⟩
    · cases h; exact ⟨_, Tryz.func44, by kernel_rfl⟩
    · cases h; exact ⟨_, Tryz.func33, by kernel_rfl⟩
    · cases h; exact ⟨_, Tryz.func50, by kernel_rfl⟩
    · cases h; exact ⟨_, Tryz.func35, by kernel_rfl⟩
    · cases h; exact ⟨_, Tryz.func36, by kernel_rfl⟩
    · cases h; exact ⟨_, Tryz.func37, by kernel_rfl⟩
    · cases h; exact ⟨_, Tryz.func38, by kernel_rfl⟩
    · cases h; exact ⟨_, Tryz.func40, by kernel_rfl⟩
    · cases h; exact ⟨_, Tryz.func42, by kernel_rfl⟩
    · cases h; exact ⟨_, Tryz.func45, by kernel_rfl⟩
    · cases h; exact ⟨_, Tryz.func48, by kernel_rfl⟩
    · cases h; exact ⟨_, Tryz.func51, by kernel_rfl⟩
    · cases h; exact ⟨_, Tryz.func109, by kernel_rfl⟩
    · cases h; exact ⟨_, Tryz.func57, by kernel_rfl⟩
    · cases h; exact ⟨_, Tryz.func59, by kernel_rfl⟩
    · cases h; exact ⟨_, Tryz.func7, by kernel_rfl⟩
    · cases h; exact ⟨_, Tryz.func58, by kernel_rfl⟩
    · cases h; exact ⟨_, Tryz.func60, by kernel_rfl⟩
    · cases h; exact ⟨_, Tryz.func108, by kernel_rfl⟩
    · cases h; exact ⟨_, Tryz.func105, by kernel_rfl⟩
    · cases h; exact ⟨_, Tryz.func103, by kernel_rfl⟩
    · cases h; exact ⟨_, Tryz.func102, by kernel_rfl⟩
    · cases h; exact ⟨_, Tryz.func101, by kernel_rfl⟩
    · cases h; exact ⟨_, Tryz.func107, by kernel_rfl⟩
    · cases h; exact ⟨_, Tryz.func106, by kernel_rfl⟩
    · cases h; exact ⟨_, Tryz.func104, by kernel_rfl⟩
    · cases h; exact ⟨_, Tryz.func100, by kernel_rfl⟩
    · cases h; exact ⟨_, Tryz.func98, by kernel_rfl⟩
    · cases h; exact ⟨_, Tryz.func111, by kernel_rfl⟩
    · cases h; exact ⟨_, Tryz.func80, by kernel_rfl⟩
    · cases h; exact ⟨_, Tryz.func110, by kernel_rfl⟩
    · cases h; exact ⟨_, Tryz.func46, by kernel_rfl⟩
    · cases h; exact ⟨_, Tryz.func78, by kernel_rfl⟩
    · cases h; exact ⟨_, Tryz.func112, by kernel_rfl⟩
    · cases h; exact ⟨_, Tryz.func113, by kernel_rfl⟩
    · cases h; exact ⟨_, Tryz.func114, by kernel_rfl⟩
    · cases h; exact ⟨_, Tryz.func115, by kernel_rfl⟩
    · cases h; exact ⟨_, Tryz.func92, by kernel_rfl⟩
    · cases h; exact ⟨_, Tryz.func93, by kernel_rfl⟩
    · cases h; exact ⟨_, Tryz.func91, by kernel_rfl⟩
    · cases h; exact ⟨_, Tryz.func94, by kernel_rfl⟩
    · cases h; exact ⟨_, Tryz.func56, by kernel_rfl⟩
    · cases h; exact ⟨_, Tryz.func43, by kernel_rfl⟩
    · cases h; exact ⟨_, Tryz.func34, by kernel_rfl⟩
    · cases h; exact ⟨_, Tryz.func39, by kernel_rfl⟩
    · cases h; exact ⟨_, Tryz.func41, by kernel_rfl⟩
    · cases h; exact ⟨_, Tryz.func49, by kernel_rfl⟩
    · cases h; exact ⟨_, Tryz.func87, by kernel_rfl⟩
    · cases h; exact ⟨_, Tryz.func89, by kernel_rfl⟩
    · cases h; exact ⟨_, Tryz.func84, by kernel_rfl⟩
    · cases h; exact ⟨_, Tryz.func86, by kernel_rfl⟩
    · cases h; exact ⟨_, Tryz.func88, by kernel_rfl⟩
    · cases h; exact ⟨_, Tryz.func83, by kernel_rfl⟩
    · cases h; exact ⟨_, Tryz.func99, by kernel_rfl⟩
    · cases h; exact ⟨_, Tryz.func16, by kernel_rfl⟩
    · cases h; exact ⟨_, Tryz.func138, by kernel_rfl⟩
    · cases h; exact ⟨_, Tryz.func137, by kernel_rfl⟩
    · cases h; exact ⟨_, Tryz.func136, by kernel_rfl⟩
    · cases h; exact ⟨_, Tryz.func27, by kernel_rfl⟩
    · cases h; exact ⟨_, Tryz.func135, by kernel_rfl⟩
    · cases h; exact ⟨_, Tryz.func133, by kernel_rfl⟩
    · cases h; exact ⟨_, Tryz.func134, by kernel_rfl⟩
    · cases h; exact ⟨_, Tryz.func139, by kernel_rfl⟩
    · cases h; exact ⟨_, Tryz.func140, by kernel_rfl⟩
    · cases h; exact ⟨_, Tryz.func120, by kernel_rfl⟩
    · cases h; exact ⟨_, Tryz.func82, by kernel_rfl⟩
    · cases h; exact ⟨_, Tryz.func75, by kernel_rfl⟩
    · cases h; exact ⟨_, Tryz.func141, by kernel_rfl⟩
    · cases h; exact ⟨_, Tryz.func128, by kernel_rfl⟩
    · cases h; exact ⟨_, Tryz.func130, by kernel_rfl⟩
    · cases h; exact ⟨_, Tryz.func129, by kernel_rfl⟩
    · cases h; exact ⟨_, Tryz.func81, by kernel_rfl⟩
    · cases h; exact ⟨_, Tryz.func77, by kernel_rfl⟩
    · cases h; exact ⟨_, Tryz.func76, by kernel_rfl⟩
    · cases h; exact ⟨_, Tryz.func79, by kernel_rfl⟩
    · cases h; exact ⟨_, Tryz.func85, by kernel_rfl⟩
    · cases h; exact ⟨_, Tryz.func125, by kernel_rfl⟩
    · cases h; exact ⟨_, Tryz.func124, by kernel_rfl⟩
    · cases h; exact ⟨_, Tryz.func126, by kernel_rfl⟩
    · cases h; exact ⟨_, Tryz.func121, by kernel_rfl⟩
    · cases h; exact ⟨_, Tryz.func154, by kernel_rfl⟩
    · cases h; exact ⟨_, Tryz.func155, by kernel_rfl⟩
    · cases h; exact ⟨_, Tryz.func116, by kernel_rfl⟩
    · cases h; exact ⟨_, Tryz.func156, by kernel_rfl⟩
    · cases h; exact ⟨_, Tryz.func151, by kernel_rfl⟩
    · cases h; exact ⟨_, Tryz.func150, by kernel_rfl⟩
    · cases h; exact ⟨_, Tryz.func149, by kernel_rfl⟩
    · cases h; exact ⟨_, Tryz.func118, by kernel_rfl⟩
    · cases h; exact ⟨_, Tryz.func123, by kernel_rfl⟩
    · cases h; exact ⟨_, Tryz.func122, by kernel_rfl⟩
    · cases h; exact ⟨_, Tryz.func147, by kernel_rfl⟩
    · cases h; exact ⟨_, Tryz.func166, by kernel_rfl⟩
    · cases h; exact ⟨_, Tryz.func174, by kernel_rfl⟩
    · cases h; exact ⟨_, Tryz.func172, by kernel_rfl⟩
    · cases h; exact ⟨_, Tryz.func173, by kernel_rfl⟩
    · cases h; exact ⟨_, Tryz.func171, by kernel_rfl⟩
    · cases h; exact ⟨_, Tryz.func119, by kernel_rfl⟩
    · cases h; exact ⟨_, Tryz.func145, by kernel_rfl⟩
    · cases h; exact ⟨_, Tryz.func185, by kernel_rfl⟩
    · cases h; exact ⟨_, Tryz.func144, by kernel_rfl⟩
  prim f g h := by
    simp only [Γ] at h
    split at h <;> try (cases h; done)
    · cases h; exact prim_join row_strings_Join
    · cases h; exact prim_itoa (gv := 154) (by kernel_rfl) (by kernel_rfl) row_strconv_Itoa
    · cases h; exact prim_indexByte row_internal_bytealg_IndexByteString
  fresh f g h := by
    simp only [Γ] at h
    split at h <;> try (cases h; done)
    · cases h; exact fresh_clone row_slices_Clone_api_Val_api_Val
  upd f g h := by
    simp only [Γ] at h
    split at h <;> try (cases h; done)
    · cases h; exact upd_sort row_slices_SortFunc_api_Val_api_Val
end Ab
