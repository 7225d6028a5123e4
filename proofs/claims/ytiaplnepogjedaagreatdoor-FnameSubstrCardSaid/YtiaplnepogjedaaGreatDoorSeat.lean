import Derived.Test.YtiaplnepogjedaaGreatDoorCode
import Derived.Test.YtiaplnepogjedaaGreatDoorLClone
import Derived.Test.YtiaplnepogjedaaGreatDoorShelf
import Derived.Test.YtiaplnepogjedaaGreatDoorAbZ2
import Derived.Test.YtiaplnepogjedaaGreatDoorAbTS
import Derived.KernelRfl
import Derived.Test.YtiaplnepogjedaaGreatDoorProg
namespace Ab
open Go Go.Proofs
def names : Names := ⟨fun n => [0, 33, 18, 32, 1, 44, 19, 25, 11, 0, 0, 17, 12, 0, 0, 0, 0, 0, 0, 0, 0, 0, 0, 0, 31, 30, 45, 43, 29, 0, 0, 22, 0, 0, 14, 0, 59, 0, 0, 0, 46, 0, 0, 0, 0, 0, 54, 55, 60, 41, 0, 0, 76, 0, 0, 72, 0, 0, 0, 0, 79, 78, 77, 92, 91, 0, 94, 109, 108, 107, 106, 122, 121, 123, 124, 131, 75, 132, 0, 74, 0, 0, 144, 58, 57, 56, 93, 110, 111, 73, 0, 0, 0, 0, 0, 0, 0, 0, 0, 0, 0, 0, 0, 0, 0, 0, 0, 0, 0, 0, 0, 21, 0, 24, 0, 0, 0, 0, 38, 39, 42, 0, 0, 0, 0, 0, 40, 64, 0, 0, 0, 0, 0, 0, 0, 0, 0, 0, 0, 0, 0, 0, 0, 0, 0, 0, 0, 0, 0, 127, 0, 0, 0, 0, 0, 0, 0, 0, 0, 0, 0, 0, 0, 0, 0, 0, 0, 0, 0, 0, 0, 0, 0, 0, 0, 0, 0, 0, 0, 0, 0, 0, 0, 0, 0, 0, 0, 0, 0, 0, 0, 0, 0, 0, 0, 0, 0, 0, 0, 0, 0, 0, 0, 0, 0, 0, 0, 0, 0, 0, 0, 0, 0, 0, 0, 0, 0, 0, 0, 0, 0, 0, 0, 0, 0, 0, 0, 0, 0, 0, 0, 0, 0, 0, 0, 0, 0, 0, 0, 0, 0, 0, 0, 0, 0, 0, 0, 0, 0, 0, 0, 0, 0, 0, 0, 0, 0, 0, 0, 0, 0, 0, 0, 0, 0, 0, 0, 0, 0, 0, 0, 0, 0, 0, 0, 0, 0, 0, 0, 0, 0, 0, 0, 0, 0, 0, 0, 0, 0, 0, 0, 0, 0, 0, 0, 8, 9, 10, 16, 15, 3, 4, 6, 5, 7, 13, 20, 26, 28, 27, 23, 34, 35, 36, 37, 48, 50, 49, 53, 52, 51, 47, 62, 61, 63, 68, 67, 66, 65, 70, 69, 71, 83, 81, 82, 80, 86, 87, 85, 84, 89, 88, 90, 95, 96, 97, 98, 104, 99, 103, 102, 101, 100, 105, 113, 112, 114, 116, 117, 115, 120, 119, 118, 125, 126, 128, 129, 130, 134, 136, 133, 135, 138, 137, 139, 140, 141, 143, 142, 149, 148, 146, 147, 151, 150, 145, 152].getD n 0, fun n => [0, 0, 0, 0, 0, 0, 0, 0, 0, 0, 0, 0, 0, 0, 0, 0, 0, 0, 0, 0, 0, 0, 0, 0, 0, 0, 0, 0, 0, 0, 0, 0, 0, 0, 0, 0, 0, 0, 0, 0, 0, 0, 0, 0, 0, 0, 0, 0, 0, 0, 0, 0, 0, 0, 0, 0, 0, 0, 0, 0, 0, 0, 0, 0, 0, 0, 0, 0, 0, 0, 0, 0, 0, 0, 0, 0, 0, 0, 0, 0, 2, 1, 0, 0, 0, 0, 0, 0, 0, 0, 0, 0, 0, 0, 0, 0, 0, 0, 0, 0, 0, 0, 0, 0, 0, 0, 0, 0, 0, 0, 0, 0, 0, 0, 0, 0, 0, 0, 0, 0, 0, 0, 0, 0, 0, 0, 0, 0, 0, 0, 0, 0, 0, 0, 0, 0, 0, 0, 0, 0, 0, 0, 0, 0, 0, 0, 0, 0, 0, 0, 0, 0, 0, 0, 0, 0, 0, 0, 0, 0, 0, 0, 0, 0, 0, 0, 0, 0, 0, 0, 0, 0, 0, 0, 0, 0, 0, 0, 0, 0, 0, 0, 0, 0, 0, 0, 0, 0, 0, 0, 0, 0, 0, 0, 0, 0, 0, 0, 0, 0, 0, 0, 0, 0, 0, 0, 0, 0, 0, 0, 0, 0, 0, 0, 0, 0, 0, 0, 0, 0, 0, 0, 0, 0, 0, 0, 0, 0, 0, 0, 0, 0, 0, 0, 0, 0, 0, 0, 0, 0, 0, 0, 0, 0, 0, 0, 0, 0, 0, 0, 0, 0, 0, 0, 0, 0, 0, 0, 0, 0, 0, 0, 0, 0, 0, 0, 0, 0, 0, 0, 0, 0, 0, 0, 0, 0, 0, 0, 0, 0, 0, 0, 0, 0, 0, 0, 0, 0, 0, 0, 0, 0, 0, 0, 0, 0, 0, 0, 0, 0, 0, 0, 0, 0, 0, 0, 0, 0, 0, 0, 0, 0, 0, 0, 0, 0, 0, 0, 0, 0, 0, 0, 0, 0, 0, 0, 0, 0, 0, 0, 0, 0, 0, 0, 0, 0, 0, 0, 0, 0, 0, 0, 0, 0, 0, 0, 0, 0, 0, 0, 0, 0, 0, 0, 0, 0, 0, 0, 0, 0, 0, 0, 0, 0, 0, 0, 0, 0, 0, 0, 0, 0, 0, 0, 0, 0, 0, 0, 0, 0, 0, 0, 0, 0, 0, 0, 0].getD n 0⟩
theorem row_internal_bytealg_IndexByteString : RowFor Tryz.prog 106 Go.Extern.BytealgIndexByte.indexByte := ⟨Tryz.f106, by kernel_rfl, by kernel_rfl, by kernel_rfl, by kernel_rfl, by kernel_rfl⟩
theorem row_internal_bytealg_CountString : RowFor Tryz.prog 123 Go.Extern.BytealgCount.count := ⟨Tryz.f123, by kernel_rfl, by kernel_rfl, by kernel_rfl, by kernel_rfl, by kernel_rfl⟩
theorem row_strings_Join : JoinOk Tryz.prog 60 := ⟨Ab.enters_of Tryz.func60 (by kernel_rfl) (by kernel_rfl), fun a c sep w => Any.strings_Join_none Tryz.lays156 Tryz.Builder_Extra_156 a c sep w, fun bk o c xs sep w h1 h2 h3 h4 h5 => Any.strings_Join Tryz.lays156 Tryz.Builder_Extra_156 bk o c xs sep w h1 h2 h3 h4 h5⟩
theorem row_slices_Clone_api_Val_api_Val : CloneOk Tryz.prog names 49 2 slices_Clone_api_Val_api_Val := ⟨by kernel_rfl, ⟨_, Tryz.func41, by kernel_rfl⟩, by decide, clone_nil, clone_mem⟩
set_option maxHeartbeats 8000000 in
set_option maxRecDepth 100000 in
theorem known : Known Γ names Tryz.prog where
  mixed := by kernel_rfl
  code f fn h := by
    simp only [Γ] at h
    split at h <;> try (cases h; done)
    · cases h; exact ⟨_, Tryz.func3, by kernel_rfl⟩
    · cases h; exact ⟨_, Tryz.func4, by kernel_rfl⟩
    · cases h; exact ⟨_, Tryz.func6, by kernel_rfl⟩
    · cases h; exact ⟨_, Tryz.func8, by kernel_rfl⟩
    · cases h; exact ⟨_, Tryz.func15, by kernel_rfl⟩
    · cases h; exact ⟨_, Tryz.func12, by kernel_rfl⟩
    · cases h; exact ⟨_, Tryz.func11, by kernel_rfl⟩
    · cases h; exact ⟨_, Tryz.func17, by kernel_rfl⟩
    · cases h; exact ⟨_, Tryz.func13, by kernel_rfl⟩
    · cases h; exact ⟨_, Tryz.func14, by kernel_rfl⟩
    · cases h; exact ⟨_, Tryz.func16, by kernel_rfl⟩
    · cases h; exact ⟨_, Tryz.func20, by kernel_rfl⟩
    · cases h; exact ⟨_, Tryz.func21, by kernel_rfl⟩
    · cases h; exact ⟨_, Tryz.func22, by kernel_rfl⟩
    · cases h; exact ⟨_, Tryz.func18, by kernel_rfl⟩
    · cases h; exact ⟨_, Tryz.func19, by kernel_rfl⟩
    · cases h; exact ⟨_, Tryz.func29, by kernel_rfl⟩
    · cases h; exact ⟨_, Tryz.func24, by kernel_rfl⟩
    · cases h; exact ⟨_, Tryz.func25, by kernel_rfl⟩
    · cases h; exact ⟨_, Tryz.func26, by kernel_rfl⟩
    · cases h; exact ⟨_, Tryz.func23, by kernel_rfl⟩
    · cases h; exact ⟨_, Tryz.func34, by kernel_rfl⟩
    · cases h; exact ⟨_, Tryz.func35, by kernel_rfl⟩
    · cases h; exact ⟨_, Tryz.func37, by kernel_rfl⟩
    · cases h; exact ⟨_, Tryz.func39, by kernel_rfl⟩
    · cases h; exact ⟨_, Tryz.func38, by kernel_rfl⟩
    · cases h; exact ⟨_, Tryz.func31, by kernel_rfl⟩
    · cases h; exact ⟨_, Tryz.func30, by kernel_rfl⟩
    · cases h; exact ⟨_, Tryz.func33, by kernel_rfl⟩
    · cases h; exact ⟨_, Tryz.func32, by kernel_rfl⟩
    · cases h; exact ⟨_, Tryz.func42, by kernel_rfl⟩
    · cases h; exact ⟨_, Tryz.func44, by kernel_rfl⟩
    · cases h; exact ⟨_, Tryz.func45, by kernel_rfl⟩
    · cases h; exact ⟨_, Tryz.func43, by kernel_rfl⟩
    · cases h; exact ⟨_, Tryz.func47, by kernel_rfl⟩
    · cases h; exact ⟨_, Tryz.func46, by kernel_rfl⟩
    · cases h; exact ⟨_, Tryz.func63, by kernel_rfl⟩
    · cases h; exact ⟨_, Tryz.func59, by kernel_rfl⟩
    · cases h; exact ⟨_, Tryz.func40, by kernel_rfl⟩
    · cases h; exact ⟨_, Tryz.func64, by kernel_rfl⟩
    · cases h; exact ⟨_, Tryz.func58, by kernel_rfl⟩
    · cases h; exact ⟨_, Tryz.func55, by kernel_rfl⟩
    · cases h; exact ⟨_, Tryz.func57, by kernel_rfl⟩
    · cases h; exact ⟨_, Tryz.func56, by kernel_rfl⟩
    · cases h; exact ⟨_, Tryz.func54, by kernel_rfl⟩
    · cases h; exact ⟨_, Tryz.func76, by kernel_rfl⟩
    · cases h; exact ⟨_, Tryz.func74, by kernel_rfl⟩
    · cases h; exact ⟨_, Tryz.func72, by kernel_rfl⟩
    · cases h; exact ⟨_, Tryz.func73, by kernel_rfl⟩
    · cases h; exact ⟨_, Tryz.func92, by kernel_rfl⟩
    · cases h; exact ⟨_, Tryz.func91, by kernel_rfl⟩
    · cases h; exact ⟨_, Tryz.func108, by kernel_rfl⟩
    · cases h; exact ⟨_, Tryz.func109, by kernel_rfl⟩
    · cases h; exact ⟨_, Tryz.func107, by kernel_rfl⟩
    · cases h; exact ⟨_, Tryz.func121, by kernel_rfl⟩
    · cases h; exact ⟨_, Tryz.func124, by kernel_rfl⟩
    · cases h; exact ⟨_, Tryz.func122, by kernel_rfl⟩
    · cases h; exact ⟨_, Tryz.func132, by kernel_rfl⟩
    · cases h; exact ⟨_, Tryz.func131, by kernel_rfl⟩
    · cases h; exact ⟨_, Tryz.func144, by kernel_rfl⟩
  prim f g h := by
    simp only [Γ] at h
    split at h <;> try (cases h; done)
    · cases h; exact prim_join row_strings_Join
    · cases h; exact prim_indexByte row_internal_bytealg_IndexByteString
    · cases h; exact prim_count row_internal_bytealg_CountString
  fresh f g h := by
    simp only [Γ] at h
    split at h <;> try (cases h; done)
    · cases h; exact fresh_clone row_slices_Clone_api_Val_api_Val
  upd f g h := by
    simp only [Γ] at h
    split at h <;> try (cases h; done)
end Ab
