import Derived.Test.YtieagbclljmnlaaGreatDoorCode
import Derived.Test.YtieagbclljmnlaaGreatDoorShelf
import Derived.Test.YtieagbclljmnlaaGreatDoorAbZ2
import Derived.Test.YtieagbclljmnlaaGreatDoorIterSeat
import Derived.Test.YtieagbclljmnlaaGreatDoorHitSeat
import Derived.Test.YtieagbclljmnlaaGreatDoorAbZ6
import Derived.Test.YtieagbclljmnlaaGreatDoorAbB3
import Derived.KernelRfl
import Derived.Test.YtieagbclljmnlaaGreatDoorProg
namespace Ab
open Go Go.Proofs
def names : Names := ⟨fun n => [0,31,0,0,1,0,0,0,0,0,0,0,0,0,0,43,25,29,0,0,62,0,44,26,66,0,63,0,0,0,0,0,0,0,0,49,36,48,47,61,23,60,59,24,82,0,0,83,52,0,65,64,57,67,69,68,39,80,81,107,74,73,72,79,87,58,92,106,105,104,111,122,121,123,124,135,110,136,0,109,0,0,140,86,85,84,91,114,115,108,0,0,0,0,0,0,0,0,0,0,0,0,0,0,0,0,0,0,0,0,0,0,0,0,0,0,0,0,0,0,0,0,0,0,0,0,0,0,0,0,0,0,0,0,0,0,0,0,0,0,0,0,0,0,0,0,0,0,0,0,0,0,0,102,0,0,0,0,0,0,0,0,0,0,0,0,0,0,0,0,0,0,0,0,0,0,0,0,0,0,0,0,0,0,0,77,0,0,101,0,0,0,0,0,0,0,0,118,117,0,0,0,0,0,0,0,0,0,0,0,0,0,0,0,0,0,0,0,0,0,0,0,0,0,0,0,0,0,0,0,0,0,0,0,0,0,0,0,0,0,0,0,0,0,0,0,0,0,0,0,0,0,0,0,0,0,0,0,0,0,0,0,0,0,0,0,0,0,0,0,0,0,0,0,0,0,0,0,0,0,0,0,0,0,0,0,0,0,0,0,0,0,0,0,0,0,0,0,0,0,0,0,0,0,0,0,0,0,0,0,0,0,0,0,0,0,0,0,0,0,0,0,0,0,0,0,0,0,0,0,0,0,0,0,0,0,0,0,0,0,0,0,0,0,0,0,0,0,0,0,0,0,0,0,0,0,0,0,0,0,0,0,0,0,0,0,0,0,0,0,0,0,0,0,0,0,0,0,0,0,0,0,0,0,0,0,0,0,0,0,0,0,10,11,9,8,7,13,12,14,15,17,18,19,20,21,22,16,33,32,34,28,30,27,35,38,37,46,45,41,40,42,51,50,56,55,54,53,71,70,78,75,76,90,89,88,103,100,99,98,97,96,95,94,93,112,113,120,119,116,133,132,131,130,129,128,127,126,125,134,139,138,137,141,3,4,5,6,0,0,0,0,0,0,0,0,0,0,0,0,0,0,0,0,0,0,0,0,0,0,0,0,0,0,0,0,0,0,0,0,0,0,0,0,0,0,0,0,0,0,0,0,0,0,0,0,0,0,0,0,0,0,0,0,0,0,0,0,0,0,0,0,0,0,0,0,0,0,0,0,0,0,0,0,0].getD n 0,fun n => [0,0,0,0,0,0,0,0,0,0,0,0,0,0,0,0,0,0,0,0,0,0,0,0,0,0,0,0,0,0,0,0,0,0,0,0,0,0,0,0,0,0,0,0,0,0,0,0,0,0,0,0,0,0,0,0,0,0,0,0,0,0,0,0,0,0,0,0,0,0,0,0,0,0,0,0,0,0,0,0,2,1,0,0,0,0,0,0,0,0,0,0,0,0,0,0,0,0,0,0,0,0,0,0,0,0,0,0,0,0,0,0,0,0,0,0,0,0,0,0,0,0,0,0,0,0,0,0,0,0,0,0,0,0,0,0,0,0,0,0,0,0,0,0,0,0,0,0,0,0,0,0,0,0,0,0,0,0,0,0,0,0,0,0,0,0,0,0,0,0,0,0,0,0,0,0,0,0,0,0,0,0,0,0,0,0,0,0,0,0,0,0,0,0,0,0,0,0,0,0,0,0,0,0,0,0,0,0,0,0,0,0,0,0,0,0,0,0,0,0,0,0,0,0,0,0,0,0,0,0,0,0,0,0,0,0,0,0,0,0,0,0,0,0,0,0,0,0,0,0,0,0,0,0,0,0,0,0,0,0,0,0,0,0,0,0,0,0,0,0,0,0,0,0,0,0,0,0,0,0,0,0,0,0,0,0,0,0,0,0,0,0,0,0,0,0,0,0,0,0,0,0,0,0,0,0,0,0,0,0,0,0,0,0,0,0,0,0,0,0,0,0,0,0,0,0,0,0,0,0,0,0,0,0,0,0,0,0,0,0,0,0,0,0,0,0,0,0,0,0,0,0,0,0,0,0,0,0,0,0,0,0,0,0,0,0,0,0,0,0,0,0,0,0,0,0,0,0,0,0,0,0,0,0,0,0,0,0,0,0,0,0,0,0,0,0,0,0,0,0,0,0,0,0,0,0,0,0,0,0,0,0,0,0,0,0,0,0,0,0,0,0,0,0,0,0,0,0,0,0,0,0,0,0,0,0,0,0,0,0,0,0,0,0,0,0,0,0,0,0,0,0,0,0,0,0,0,0,0,0,0,0,0,0,0,0,0,0,0,0,0,0,0,0,0,0,0,0,0,0,0,0,0,0,0,0,0,0,0,0,0,0,0,0,0,0,0,0,0,0,0,0,0,0,0,0,0,0,0,0,0,0,0,0,0,0,0,0,0,0,0,0,0,0,0,0,0,0,0,0,0,0,0,0,0,0,0,0,0,0,0,0,0,0,0].getD n 0⟩
theorem row_internal_bytealg_IndexByteString : RowFor Tryz.prog 111 Go.Extern.BytealgIndexByte.indexByte := ⟨Tryz.f111,by kernel_rfl,by kernel_rfl,by kernel_rfl,by kernel_rfl,by kernel_rfl⟩
theorem row_internal_bytealg_CountString : RowFor Tryz.prog 123 Go.Extern.BytealgCount.count := ⟨Tryz.f123,by kernel_rfl,by kernel_rfl,by kernel_rfl,by kernel_rfl,by kernel_rfl⟩
theorem row_strings_Join : JoinOk Tryz.prog 52 := ⟨Ab.enters_of Tryz.func52 (by kernel_rfl) (by kernel_rfl),fun a c sep w => Any.strings_Join_none Tryz.lays156 Tryz.Builder_Extra_156 a c sep w,fun bk o c xs sep w h1 h2 h3 h4 h5 => Any.strings_Join Tryz.lays156 Tryz.Builder_Extra_156 bk o c xs sep w h1 h2 h3 h4 h5⟩
theorem row_slices_Sorted_string : ∀ K ∈ [433],KeysOk Tryz.prog (names.fn 429) (names.fn K) 9 := by
  intro K hK
  simp only [List.mem_cons,List.not_mem_nil,or_false] at hK
  rcases hK with rfl
  · exact Tryz.keysOk0
theorem row_slices_SortedFunc_api_Hit : ∀ K ∈ [425],HitsOk Tryz.prog (names.fn 409) (names.fn K) (names.fn 410) 31 := by
  intro K hK
  simp only [List.mem_cons,List.not_mem_nil,or_false] at hK
  subst hK
  exact Tryz.hitsOk
set_option maxHeartbeats 8000000 in
set_option maxRecDepth 100000 in
theorem known : Known Γ names Tryz.prog where
  mixed := by kernel_rfl
  code f fn h := by
    simp only [Γ] at h
    split at h <;> try (cases h; done)
    · cases h; exact ⟨_,Tryz.func5,by kernel_rfl⟩
    · cases h; exact ⟨_,Tryz.func21,by kernel_rfl⟩
    · cases h; exact ⟨_,Tryz.func22,by kernel_rfl⟩
    · cases h; exact ⟨_,Tryz.func18,by kernel_rfl⟩
    · cases h; exact ⟨_,Tryz.func20,by kernel_rfl⟩
    · cases h; exact ⟨_,Tryz.func9,by kernel_rfl⟩
    · cases h; exact ⟨_,Tryz.func10,by kernel_rfl⟩
    · cases h; exact ⟨_,Tryz.func17,by kernel_rfl⟩
    · cases h; exact ⟨_,Tryz.func15,by kernel_rfl⟩
    · cases h; exact ⟨_,Tryz.func13,by kernel_rfl⟩
    · cases h; exact ⟨_,Tryz.func19,by kernel_rfl⟩
    · cases h; exact ⟨_,Tryz.func16,by kernel_rfl⟩
    · cases h; exact ⟨_,Tryz.func14,by kernel_rfl⟩
    · cases h; exact ⟨_,Tryz.func11,by kernel_rfl⟩
    · cases h; exact ⟨_,Tryz.func12,by kernel_rfl⟩
    · cases h; exact ⟨_,Tryz.func8,by kernel_rfl⟩
    · cases h; exact ⟨_,Tryz.func45,by kernel_rfl⟩
    · cases h; exact ⟨_,Tryz.func46,by kernel_rfl⟩
    · cases h; exact ⟨_,Tryz.func43,by kernel_rfl⟩
    · cases h; exact ⟨_,Tryz.func44,by kernel_rfl⟩
    · cases h; exact ⟨_,Tryz.func41,by kernel_rfl⟩
    · cases h; exact ⟨_,Tryz.func7,by kernel_rfl⟩
    · cases h; exact ⟨_,Tryz.func28,by kernel_rfl⟩
    · cases h; exact ⟨_,Tryz.func30,by kernel_rfl⟩
    · cases h; exact ⟨_,Tryz.func27,by kernel_rfl⟩
    · cases h; exact ⟨_,Tryz.func25,by kernel_rfl⟩
    · cases h; exact ⟨_,Tryz.func26,by kernel_rfl⟩
    · cases h; exact ⟨_,Tryz.func34,by kernel_rfl⟩
    · cases h; exact ⟨_,Tryz.func33,by kernel_rfl⟩
    · cases h; exact ⟨_,Tryz.func35,by kernel_rfl⟩
    · cases h; exact ⟨_,Tryz.func36,by kernel_rfl⟩
    · cases h; exact ⟨_,Tryz.func40,by kernel_rfl⟩
    · cases h; exact ⟨_,Tryz.func39,by kernel_rfl⟩
    · cases h; exact ⟨_,Tryz.func37,by kernel_rfl⟩
    · cases h; exact ⟨_,Tryz.func38,by kernel_rfl⟩
    · cases h; exact ⟨_,Tryz.func42,by kernel_rfl⟩
    · cases h; exact ⟨_,Tryz.func63,by kernel_rfl⟩
    · cases h; exact ⟨_,Tryz.func23,by kernel_rfl⟩
    · cases h; exact ⟨_,Tryz.func62,by kernel_rfl⟩
    · cases h; exact ⟨_,Tryz.func60,by kernel_rfl⟩
    · cases h; exact ⟨_,Tryz.func59,by kernel_rfl⟩
    · cases h; exact ⟨_,Tryz.func61,by kernel_rfl⟩
    · cases h; exact ⟨_,Tryz.func24,by kernel_rfl⟩
    · cases h; exact ⟨_,Tryz.func29,by kernel_rfl⟩
    · cases h; exact ⟨_,Tryz.func31,by kernel_rfl⟩
    · cases h; exact ⟨_,Tryz.func50,by kernel_rfl⟩
    · cases h; exact ⟨_,Tryz.func51,by kernel_rfl⟩
    · cases h; exact ⟨_,Tryz.func48,by kernel_rfl⟩
    · cases h; exact ⟨_,Tryz.func47,by kernel_rfl⟩
    · cases h; exact ⟨_,Tryz.func49,by kernel_rfl⟩
    · cases h; exact ⟨_,Tryz.func56,by kernel_rfl⟩
    · cases h; exact ⟨_,Tryz.func57,by kernel_rfl⟩
    · cases h; exact ⟨_,Tryz.func58,by kernel_rfl⟩
    · cases h; exact ⟨_,Tryz.func82,by kernel_rfl⟩
    · cases h; exact ⟨_,Tryz.func80,by kernel_rfl⟩
    · cases h; exact ⟨_,Tryz.func81,by kernel_rfl⟩
    · cases h; exact ⟨_,Tryz.func71,by kernel_rfl⟩
    · cases h; exact ⟨_,Tryz.func65,by kernel_rfl⟩
    · cases h; exact ⟨_,Tryz.func64,by kernel_rfl⟩
    · cases h; exact ⟨_,Tryz.func66,by kernel_rfl⟩
    · cases h; exact ⟨_,Tryz.func67,by kernel_rfl⟩
    · cases h; exact ⟨_,Tryz.func69,by kernel_rfl⟩
    · cases h; exact ⟨_,Tryz.func68,by kernel_rfl⟩
    · cases h; exact ⟨_,Tryz.func78,by kernel_rfl⟩
    · cases h; exact ⟨_,Tryz.func79,by kernel_rfl⟩
    · cases h; exact ⟨_,Tryz.func107,by kernel_rfl⟩
    · cases h; exact ⟨_,Tryz.func86,by kernel_rfl⟩
    · cases h; exact ⟨_,Tryz.func83,by kernel_rfl⟩
    · cases h; exact ⟨_,Tryz.func85,by kernel_rfl⟩
    · cases h; exact ⟨_,Tryz.func84,by kernel_rfl⟩
    · cases h; exact ⟨_,Tryz.func87,by kernel_rfl⟩
    · cases h; exact ⟨_,Tryz.func103,by kernel_rfl⟩
    · cases h; exact ⟨_,Tryz.func105,by kernel_rfl⟩
    · cases h; exact ⟨_,Tryz.func106,by kernel_rfl⟩
    · cases h; exact ⟨_,Tryz.func104,by kernel_rfl⟩
    · cases h; exact ⟨_,Tryz.func109,by kernel_rfl⟩
    · cases h; exact ⟨_,Tryz.func108,by kernel_rfl⟩
    · cases h; exact ⟨_,Tryz.func121,by kernel_rfl⟩
    · cases h; exact ⟨_,Tryz.func124,by kernel_rfl⟩
    · cases h; exact ⟨_,Tryz.func122,by kernel_rfl⟩
    · cases h; exact ⟨_,Tryz.func136,by kernel_rfl⟩
    · cases h; exact ⟨_,Tryz.func135,by kernel_rfl⟩
    · cases h; exact ⟨_,Tryz.func140,by kernel_rfl⟩
  prim f g h := by
    simp only [Γ] at h
    split at h <;> try (cases h; done)
    · cases h; exact prim_join row_strings_Join
    · cases h; exact prim_indexByte row_internal_bytealg_IndexByteString
    · cases h; exact prim_count row_internal_bytealg_CountString
  fresh f g h := by
    simp only [Γ] at h
    split at h <;> try (cases h; done)
  upd f g h := by
    simp only [Γ] at h
    split at h <;> try (cases h; done)
  look f g h := by
    simp only [Γ] at h
    split at h <;> try (cases h; done)
    · cases h; exact look_keys row_slices_Sorted_string
  lookc f c q g h := by
    simp only [Γ] at h
    split at h <;> try (cases h; done)
    · cases h; exact look_hits row_slices_SortedFunc_api_Hit
end Ab
