import Derived.Test.YtinkfiahfcpopaaGreatDoorCode
import Derived.Test.YtinkfiahfcpopaaGreatDoorLClone
import Derived.Test.YtinkfiahfcpopaaGreatDoorShelf
import Derived.Test.YtinkfiahfcpopaaGreatDoorAbB3
import Derived.KernelRfl
import Derived.Test.YtinkfiahfcpopaaGreatDoorProg
namespace Ab
open Go Go.Proofs
def names : Names := ⟨fun n => [0, 38, 25, 37, 1, 28, 21, 13, 11, 0, 0, 10, 5, 0, 0, 0, 0, 0, 0, 0, 0, 0, 0, 0, 53, 52, 29, 27, 24, 17, 43, 144, 49, 50, 30, 0, 60, 0, 0, 0, 54, 0, 0, 0, 0, 0, 93, 94, 61, 161, 0, 0, 102, 0, 0, 128, 0, 0, 0, 0, 105, 104, 103, 134, 150, 0, 136, 153, 152, 151, 166, 165, 167, 168, 169, 185, 131, 186, 0, 130, 0, 0, 196, 97, 96, 95, 135, 154, 155, 129, 0, 0, 0, 0, 0, 0, 0, 0, 0, 0, 0, 0, 0, 0, 0, 81, 0, 92, 0, 0, 0, 20, 0, 12, 120, 68, 70, 0, 34, 35, 26, 127, 31, 85, 86, 0, 36, 59, 56, 58, 57, 55, 106, 99, 98, 91, 109, 75, 108, 137, 84, 100, 113, 114, 142, 141, 112, 160, 159, 143, 180, 0, 0, 179, 0, 0, 0, 0, 119, 117, 0, 0, 16, 0, 101, 145, 146, 133, 132, 32, 162, 0, 0, 0, 111, 110, 72, 107, 126, 125, 87, 124, 138, 139, 140, 157, 156, 158, 178, 177, 176, 175, 174, 173, 172, 171, 170, 189, 188, 191, 190, 187, 197, 0, 78, 90, 0, 0, 0, 0, 0, 0, 0, 0, 0, 0, 0, 22, 0, 0, 0, 0, 0, 0, 23, 0, 44, 42, 41, 40, 39, 7, 0, 0, 0, 51, 46, 48, 47, 83, 82, 45, 62, 64, 65, 66, 67, 69, 71, 73, 74, 76, 77, 79, 80, 15, 14, 0, 0, 0, 0, 0, 88, 89, 123, 122, 121, 63, 118, 116, 18, 115, 0, 0, 149, 148, 33, 164, 0, 0, 0, 0, 0, 0, 0, 0, 0, 0, 0, 0, 0, 0, 0, 0, 0, 0, 0, 0, 0, 0, 0, 0, 0, 0, 0, 6, 0, 0, 0, 0, 0, 0, 0, 0, 0, 0, 0, 0, 0, 0, 0, 0, 0, 0, 0, 0, 0, 0, 0, 0, 0, 0, 0, 0, 0, 0, 0, 0, 0, 0, 0, 0, 0, 0, 0, 0, 0, 0, 0, 0, 0, 0, 0, 0, 0, 0, 0, 0, 0, 0, 0, 0, 0, 0, 0, 0, 0, 0, 0, 0, 0, 0, 0, 0, 0, 0, 0, 0, 0, 0, 0, 0, 0, 0, 0, 0, 0, 9, 8, 19, 3, 4].getD n 0, fun n => [0, 0, 0, 0, 0, 0, 0, 0, 0, 0, 0, 0, 0, 0, 0, 0, 0, 0, 0, 0, 0, 0, 0, 0, 0, 0, 0, 0, 0, 0, 0, 0, 0, 0, 0, 0, 0, 0, 0, 0, 0, 0, 0, 0, 0, 0, 0, 0, 0, 0, 0, 0, 0, 0, 0, 0, 0, 0, 0, 0, 0, 0, 0, 0, 0, 0, 0, 0, 0, 0, 0, 0, 0, 0, 0, 0, 0, 0, 0, 0, 5, 4, 0, 0, 0, 0, 0, 0, 0, 0, 0, 0, 0, 0, 0, 0, 0, 0, 0, 0, 0, 0, 0, 0, 0, 0, 0, 0, 0, 0, 0, 0, 0, 0, 0, 0, 0, 0, 0, 0, 0, 0, 0, 0, 0, 0, 0, 0, 0, 0, 0, 0, 0, 0, 0, 0, 0, 0, 0, 0, 0, 0, 0, 0, 0, 0, 0, 0, 0, 0, 0, 2, 1, 0, 3, 0, 0, 0, 0, 0, 0, 0, 0, 0, 0, 0, 0, 0, 0, 0, 0, 0, 0, 0, 0, 0, 0, 0, 0, 0, 0, 0, 0, 0, 0, 0, 0, 0, 0, 0, 0, 0, 0, 0, 0, 0, 0, 0, 0, 0, 0, 0, 0, 0, 0, 0, 0, 0, 0, 0, 0, 0, 0, 0, 0, 0, 0, 0, 0, 0, 0, 0, 0, 0, 0, 0, 0, 0, 0, 0, 0, 0, 0, 0, 0, 0, 0, 0, 0, 0, 0, 0, 0, 0, 0, 0, 0, 0, 0, 0, 0, 0, 0, 0, 0, 0, 0, 0, 0, 0, 0, 0, 0, 0, 0, 0, 0, 0, 0, 0, 0, 0, 0, 0, 0, 0, 0, 0, 0, 0, 0, 0, 0, 0, 0, 0, 0, 0, 0, 0, 0, 0, 0, 0, 0, 0, 0, 0, 0, 0, 0, 0, 0, 0, 0, 0, 0, 0, 0, 0, 0, 0, 0, 0, 0, 0, 0, 0, 0, 0, 0, 0, 0, 0, 0, 0, 0, 0, 0, 0, 0, 0, 0, 0, 0, 0, 0, 0, 0, 0, 0, 0, 0, 0, 0, 0, 0, 0, 0, 0, 0, 0, 0, 0, 0, 0, 0, 0, 0, 0, 0, 0, 0, 0, 0, 0, 0, 0, 0, 0, 0, 0, 0, 0, 0, 0, 0, 0, 0, 0, 0, 0, 0, 0, 0, 0, 0, 0, 0, 0, 0, 0].getD n 0⟩
theorem row_internal_bytealg_IndexByteString : RowFor Tryz.prog 166 Go.Extern.BytealgIndexByte.indexByte := ⟨Tryz.f166, by kernel_rfl, by kernel_rfl, by kernel_rfl, by kernel_rfl, by kernel_rfl⟩
theorem row_internal_bytealg_CountString : RowFor Tryz.prog 168 Go.Extern.BytealgCount.count := ⟨Tryz.f168, by kernel_rfl, by kernel_rfl, by kernel_rfl, by kernel_rfl, by kernel_rfl⟩
theorem row_strings_Join : JoinOk Tryz.prog 61 := ⟨Ab.enters_of Tryz.func61 (by kernel_rfl) (by kernel_rfl), fun a c sep w => Any.strings_Join_none Tryz.lays156 Tryz.Builder_Extra_156 a c sep w, fun bk o c xs sep w h1 h2 h3 h4 h5 => Any.strings_Join Tryz.lays156 Tryz.Builder_Extra_156 bk o c xs sep w h1 h2 h3 h4 h5⟩
theorem row_slices_Clone_api_Val_api_Val : CloneOk Tryz.prog names 49 2 slices_Clone_api_Val_api_Val := ⟨by kernel_rfl, ⟨_, Tryz.func161, by kernel_rfl⟩, by decide, clone_nil, clone_mem⟩
set_option maxHeartbeats 8000000 in
set_option maxRecDepth 100000 in
theorem known : Known Γ names Tryz.prog where
  mixed := by kernel_rfl
  code f fn h := by
    simp only [Γ] at h
    split at h <;> try (cases h; done)
    · cases h; exact ⟨_, Tryz.func3, by kernel_rfl⟩
    · cases h; exact ⟨_, Tryz.func4, by kernel_rfl⟩
    · cases h; exact ⟨_, Tryz.func8, by kernel_rfl⟩
    · cases h; exact ⟨_, Tryz.func5, by kernel_rfl⟩
    · cases h; exact ⟨_, Tryz.func11, by kernel_rfl⟩
    · cases h; exact ⟨_, Tryz.func10, by kernel_rfl⟩
    · cases h; exact ⟨_, Tryz.func6, by kernel_rfl⟩
    · cases h; exact ⟨_, Tryz.func7, by kernel_rfl⟩
    · cases h; exact ⟨_, Tryz.func9, by kernel_rfl⟩
    · cases h; exact ⟨_, Tryz.func12, by kernel_rfl⟩
    · cases h; exact ⟨_, Tryz.func13, by kernel_rfl⟩
    · cases h; exact ⟨_, Tryz.func17, by kernel_rfl⟩
    · cases h; exact ⟨_, Tryz.func22, by kernel_rfl⟩
    · cases h; exact ⟨_, Tryz.func19, by kernel_rfl⟩
    · cases h; exact ⟨_, Tryz.func21, by kernel_rfl⟩
    · cases h; exact ⟨_, Tryz.func18, by kernel_rfl⟩
    · cases h; exact ⟨_, Tryz.func25, by kernel_rfl⟩
    · cases h; exact ⟨_, Tryz.func24, by kernel_rfl⟩
    · cases h; exact ⟨_, Tryz.func14, by kernel_rfl⟩
    · cases h; exact ⟨_, Tryz.func16, by kernel_rfl⟩
    · cases h; exact ⟨_, Tryz.func15, by kernel_rfl⟩
    · cases h; exact ⟨_, Tryz.func23, by kernel_rfl⟩
    · cases h; exact ⟨_, Tryz.func26, by kernel_rfl⟩
    · cases h; exact ⟨_, Tryz.func28, by kernel_rfl⟩
    · cases h; exact ⟨_, Tryz.func29, by kernel_rfl⟩
    · cases h; exact ⟨_, Tryz.func27, by kernel_rfl⟩
    · cases h; exact ⟨_, Tryz.func42, by kernel_rfl⟩
    · cases h; exact ⟨_, Tryz.func36, by kernel_rfl⟩
    · cases h; exact ⟨_, Tryz.func44, by kernel_rfl⟩
    · cases h; exact ⟨_, Tryz.func39, by kernel_rfl⟩
    · cases h; exact ⟨_, Tryz.func40, by kernel_rfl⟩
    · cases h; exact ⟨_, Tryz.func43, by kernel_rfl⟩
    · cases h; exact ⟨_, Tryz.func20, by kernel_rfl⟩
    · cases h; exact ⟨_, Tryz.func38, by kernel_rfl⟩
    · cases h; exact ⟨_, Tryz.func37, by kernel_rfl⟩
    · cases h; exact ⟨_, Tryz.func33, by kernel_rfl⟩
    · cases h; exact ⟨_, Tryz.func53, by kernel_rfl⟩
    · cases h; exact ⟨_, Tryz.func52, by kernel_rfl⟩
    · cases h; exact ⟨_, Tryz.func32, by kernel_rfl⟩
    · cases h; exact ⟨_, Tryz.func30, by kernel_rfl⟩
    · cases h; exact ⟨_, Tryz.func31, by kernel_rfl⟩
    · cases h; exact ⟨_, Tryz.func50, by kernel_rfl⟩
    · cases h; exact ⟨_, Tryz.func51, by kernel_rfl⟩
    · cases h; exact ⟨_, Tryz.func47, by kernel_rfl⟩
    · cases h; exact ⟨_, Tryz.func46, by kernel_rfl⟩
    · cases h; exact ⟨_, Tryz.func49, by kernel_rfl⟩
    · cases h; exact ⟨_, Tryz.func54, by kernel_rfl⟩
    · cases h; exact ⟨_, Tryz.func83, by kernel_rfl⟩
    · cases h; exact ⟨_, Tryz.func45, by kernel_rfl⟩
    · cases h; exact ⟨_, Tryz.func79, by kernel_rfl⟩
    · cases h; exact ⟨_, Tryz.func80, by kernel_rfl⟩
    · cases h; exact ⟨_, Tryz.func35, by kernel_rfl⟩
    · cases h; exact ⟨_, Tryz.func34, by kernel_rfl⟩
    · cases h; exact ⟨_, Tryz.func60, by kernel_rfl⟩
    · cases h; exact ⟨_, Tryz.func97, by kernel_rfl⟩
    · cases h; exact ⟨_, Tryz.func94, by kernel_rfl⟩
    · cases h; exact ⟨_, Tryz.func96, by kernel_rfl⟩
    · cases h; exact ⟨_, Tryz.func95, by kernel_rfl⟩
    · cases h; exact ⟨_, Tryz.func93, by kernel_rfl⟩
    · cases h; exact ⟨_, Tryz.func56, by kernel_rfl⟩
    · cases h; exact ⟨_, Tryz.func57, by kernel_rfl⟩
    · cases h; exact ⟨_, Tryz.func58, by kernel_rfl⟩
    · cases h; exact ⟨_, Tryz.func55, by kernel_rfl⟩
    · cases h; exact ⟨_, Tryz.func84, by kernel_rfl⟩
    · cases h; exact ⟨_, Tryz.func63, by kernel_rfl⟩
    · cases h; exact ⟨_, Tryz.func117, by kernel_rfl⟩
    · cases h; exact ⟨_, Tryz.func119, by kernel_rfl⟩
    · cases h; exact ⟨_, Tryz.func115, by kernel_rfl⟩
    · cases h; exact ⟨_, Tryz.func116, by kernel_rfl⟩
    · cases h; exact ⟨_, Tryz.func118, by kernel_rfl⟩
    · cases h; exact ⟨_, Tryz.func59, by kernel_rfl⟩
    · cases h; exact ⟨_, Tryz.func102, by kernel_rfl⟩
    · cases h; exact ⟨_, Tryz.func130, by kernel_rfl⟩
    · cases h; exact ⟨_, Tryz.func128, by kernel_rfl⟩
    · cases h; exact ⟨_, Tryz.func129, by kernel_rfl⟩
    · cases h; exact ⟨_, Tryz.func98, by kernel_rfl⟩
    · cases h; exact ⟨_, Tryz.func99, by kernel_rfl⟩
    · cases h; exact ⟨_, Tryz.func101, by kernel_rfl⟩
    · cases h; exact ⟨_, Tryz.func100, by kernel_rfl⟩
    · cases h; exact ⟨_, Tryz.func91, by kernel_rfl⟩
    · cases h; exact ⟨_, Tryz.func106, by kernel_rfl⟩
    · cases h; exact ⟨_, Tryz.func145, by kernel_rfl⟩
    · cases h; exact ⟨_, Tryz.func144, by kernel_rfl⟩
    · cases h; exact ⟨_, Tryz.func146, by kernel_rfl⟩
    · cases h; exact ⟨_, Tryz.func134, by kernel_rfl⟩
    · cases h; exact ⟨_, Tryz.func150, by kernel_rfl⟩
    · cases h; exact ⟨_, Tryz.func133, by kernel_rfl⟩
    · cases h; exact ⟨_, Tryz.func132, by kernel_rfl⟩
    · cases h; exact ⟨_, Tryz.func109, by kernel_rfl⟩
    · cases h; exact ⟨_, Tryz.func108, by kernel_rfl⟩
    · cases h; exact ⟨_, Tryz.func75, by kernel_rfl⟩
    · cases h; exact ⟨_, Tryz.func137, by kernel_rfl⟩
    · cases h; exact ⟨_, Tryz.func162, by kernel_rfl⟩
    · cases h; exact ⟨_, Tryz.func152, by kernel_rfl⟩
    · cases h; exact ⟨_, Tryz.func153, by kernel_rfl⟩
    · cases h; exact ⟨_, Tryz.func151, by kernel_rfl⟩
    · cases h; exact ⟨_, Tryz.func114, by kernel_rfl⟩
    · cases h; exact ⟨_, Tryz.func113, by kernel_rfl⟩
    · cases h; exact ⟨_, Tryz.func142, by kernel_rfl⟩
    · cases h; exact ⟨_, Tryz.func112, by kernel_rfl⟩
    · cases h; exact ⟨_, Tryz.func141, by kernel_rfl⟩
    · cases h; exact ⟨_, Tryz.func167, by kernel_rfl⟩
    · cases h; exact ⟨_, Tryz.func169, by kernel_rfl⟩
    · cases h; exact ⟨_, Tryz.func165, by kernel_rfl⟩
    · cases h; exact ⟨_, Tryz.func159, by kernel_rfl⟩
    · cases h; exact ⟨_, Tryz.func160, by kernel_rfl⟩
    · cases h; exact ⟨_, Tryz.func143, by kernel_rfl⟩
    · cases h; exact ⟨_, Tryz.func186, by kernel_rfl⟩
    · cases h; exact ⟨_, Tryz.func185, by kernel_rfl⟩
    · cases h; exact ⟨_, Tryz.func180, by kernel_rfl⟩
    · cases h; exact ⟨_, Tryz.func196, by kernel_rfl⟩
    · cases h; exact ⟨_, Tryz.func179, by kernel_rfl⟩
  prim f g h := by
    simp only [Γ] at h
    split at h <;> try (cases h; done)
    · cases h; exact prim_join row_strings_Join
    · cases h; exact prim_indexByte row_internal_bytealg_IndexByteString
    · cases h; exact prim_count row_internal_bytealg_CountString
  fresh f g h := by
    simp only [Γ] at h
    split at h <;> try (cases h; done)
    · cases h; exact fresh_clone row_slices_Clone_api_Val_api_Val
  upd f g h := by
    simp only [Γ] at h
    split at h <;> try (cases h; done)
end Ab
