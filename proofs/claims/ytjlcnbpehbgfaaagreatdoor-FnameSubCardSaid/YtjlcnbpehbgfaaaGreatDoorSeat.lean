import Derived.Test.YtjlcnbpehbgfaaaGreatDoorCode
import Derived.Test.YtjlcnbpehbgfaaaGreatDoorLClone
import Derived.Test.YtjlcnbpehbgfaaaGreatDoorShelf
import Derived.Test.YtjlcnbpehbgfaaaGreatDoorAbZ2
import Derived.Test.YtjlcnbpehbgfaaaGreatDoorAbB3
import Derived.KernelRfl
import Derived.Test.YtjlcnbpehbgfaaaGreatDoorProg
namespace Ab
open Go Go.Proofs
def names : Names := ⟨fun n => [0,30,15,29,1,41,16,22,8,0,0,14,9,0,0,0,0,0,0,0,0,0,0,0,28,27,42,40,26,0,0,19,0,0,11,0,56,0,0,0,43,0,0,0,0,0,51,52,57,38,0,0,73,0,0,69,0,0,0,0,76,75,74,89,88,0,91,106,105,104,103,119,118,120,121,128,72,129,0,71,0,0,141,55,54,53,90,107,108,70,0,0,0,0,0,0,0,0,0,0,0,0,0,0,0,0,0,0,0,0,0,18,0,21,0,0,0,0,35,36,39,0,0,0,0,0,37,61,0,0,0,0,0,0,0,0,0,0,0,0,0,0,0,0,0,0,0,0,0,124,0,0,0,0,0,0,0,0,0,0,0,0,0,0,0,0,0,0,0,0,0,0,0,0,0,0,0,0,0,0,0,0,0,0,0,0,0,0,0,0,0,0,0,0,0,0,0,0,0,0,0,0,0,0,0,0,0,0,0,0,0,0,0,0,0,0,0,0,0,0,0,0,0,0,0,0,0,0,0,0,0,0,0,0,0,0,0,0,0,0,0,0,0,0,0,0,0,0,0,0,0,0,0,0,0,0,0,0,0,0,0,0,0,0,0,0,0,0,0,0,0,0,0,0,0,0,0,0,0,0,0,0,0,0,0,0,0,0,0,0,0,0,0,0,0,5,6,7,13,12,0,0,0,3,4,10,17,23,25,24,20,31,32,33,34,45,47,46,50,49,48,44,59,58,60,65,64,63,62,67,66,68,80,78,79,77,83,84,82,81,86,85,87,92,93,94,95,101,96,100,99,98,97,102,110,109,111,113,114,112,117,116,115,122,123,125,126,127,131,133,130,132,135,134,136,137,138,140,139,146,145,143,144,148,147,142,149,0,0,0,0,0].getD n 0,fun n => [0,0,0,0,0,0,0,0,0,0,0,0,0,0,0,0,0,0,0,0,0,0,0,0,0,0,0,0,0,0,0,0,0,0,0,0,0,0,0,0,0,0,0,0,0,0,0,0,0,0,0,0,0,0,0,0,0,0,0,0,0,0,0,0,0,0,0,0,0,0,0,0,0,0,0,0,0,0,0,0,2,1,0,0,0,0,0,0,0,0,0,0,0,0,0,0,0,0,0,0,0,0,0,0,0,0,0,0,0,0,0,0,0,0,0,0,0,0,0,0,0,0,0,0,0,0,0,0,0,0,0,0,0,0,0,0,0,0,0,0,0,0,0,0,0,0,0,0,0,0,0,0,0,0,0,0,0,0,0,0,0,0,0,0,0,0,0,0,0,0,0,0,0,0,0,0,0,0,0,0,0,0,0,0,0,0,0,0,0,0,0,0,0,0,0,0,0,0,0,0,0,0,0,0,0,0,0,0,0,0,0,0,0,0,0,0,0,0,0,0,0,0,0,0,0,0,0,0,0,0,0,0,0,0,0,0,0,0,0,0,0,0,0,0,0,0,0,0,0,0,0,0,0,0,0,0,0,0,0,0,0,0,0,0,0,0,0,0,0,0,0,0,0,0,0,0,0,0,0,0,0,0,0,0,0,0,0,0,0,0,0,0,0,0,0,0,0,0,0,0,0,0,0,0,0,0,0,0,0,0,0,0,0,0,0,0,0,0,0,0,0,0,0,0,0,0,0,0,0,0,0,0,0,0,0,0,0,0,0,0,0,0,0,0,0,0,0,0,0,0,0,0,0,0,0,0,0,0,0,0,0,0,0,0,0,0,0,0,0,0,0,0,0,0,0,0,0,0,0,0,0,0,0,0,0,0,0,0,0,0,0,0].getD n 0⟩
theorem row_internal_bytealg_IndexByteString : RowFor Tryz.prog 103 Go.Extern.BytealgIndexByte.indexByte := ⟨Tryz.f103,by kernel_rfl,by kernel_rfl,by kernel_rfl,by kernel_rfl,by kernel_rfl⟩
theorem row_internal_bytealg_CountString : RowFor Tryz.prog 120 Go.Extern.BytealgCount.count := ⟨Tryz.f120,by kernel_rfl,by kernel_rfl,by kernel_rfl,by kernel_rfl,by kernel_rfl⟩
theorem row_strings_Join : JoinOk Tryz.prog 57 := ⟨Ab.enters_of Tryz.func57 (by kernel_rfl) (by kernel_rfl),fun a c sep w => Any.strings_Join_none Tryz.lays156 Tryz.Builder_Extra_156 a c sep w,fun bk o c xs sep w h1 h2 h3 h4 h5 => Any.strings_Join Tryz.lays156 Tryz.Builder_Extra_156 bk o c xs sep w h1 h2 h3 h4 h5⟩
theorem row_slices_Clone_api_Val_api_Val : CloneOk Tryz.prog names 49 2 slices_Clone_api_Val_api_Val := ⟨by kernel_rfl,⟨_,Tryz.func38,by kernel_rfl⟩,by decide,clone_nil,clone_mem⟩
set_option maxHeartbeats 8000000 in
set_option maxRecDepth 100000 in
theorem known : Known Γ names Tryz.prog where
  mixed := by kernel_rfl
  code f fn h := by
    simp only [Γ] at h
    split at h <;> try (cases h; done)
    · cases h; exact ⟨_,Tryz.func3,by kernel_rfl⟩
    · cases h; exact ⟨_,Tryz.func4,by kernel_rfl⟩
    · cases h; exact ⟨_,Tryz.func5,by kernel_rfl⟩
    · cases h; exact ⟨_,Tryz.func6,by kernel_rfl⟩
    · cases h; exact ⟨_,Tryz.func8,by kernel_rfl⟩
    · cases h; exact ⟨_,Tryz.func7,by kernel_rfl⟩
    · cases h; exact ⟨_,Tryz.func12,by kernel_rfl⟩
    · cases h; exact ⟨_,Tryz.func9,by kernel_rfl⟩
    · cases h; exact ⟨_,Tryz.func14,by kernel_rfl⟩
    · cases h; exact ⟨_,Tryz.func10,by kernel_rfl⟩
    · cases h; exact ⟨_,Tryz.func11,by kernel_rfl⟩
    · cases h; exact ⟨_,Tryz.func13,by kernel_rfl⟩
    · cases h; exact ⟨_,Tryz.func15,by kernel_rfl⟩
    · cases h; exact ⟨_,Tryz.func16,by kernel_rfl⟩
    · cases h; exact ⟨_,Tryz.func17,by kernel_rfl⟩
    · cases h; exact ⟨_,Tryz.func18,by kernel_rfl⟩
    · cases h; exact ⟨_,Tryz.func19,by kernel_rfl⟩
    · cases h; exact ⟨_,Tryz.func26,by kernel_rfl⟩
    · cases h; exact ⟨_,Tryz.func24,by kernel_rfl⟩
    · cases h; exact ⟨_,Tryz.func25,by kernel_rfl⟩
    · cases h; exact ⟨_,Tryz.func21,by kernel_rfl⟩
    · cases h; exact ⟨_,Tryz.func22,by kernel_rfl⟩
    · cases h; exact ⟨_,Tryz.func23,by kernel_rfl⟩
    · cases h; exact ⟨_,Tryz.func20,by kernel_rfl⟩
    · cases h; exact ⟨_,Tryz.func28,by kernel_rfl⟩
    · cases h; exact ⟨_,Tryz.func27,by kernel_rfl⟩
    · cases h; exact ⟨_,Tryz.func30,by kernel_rfl⟩
    · cases h; exact ⟨_,Tryz.func29,by kernel_rfl⟩
    · cases h; exact ⟨_,Tryz.func31,by kernel_rfl⟩
    · cases h; exact ⟨_,Tryz.func32,by kernel_rfl⟩
    · cases h; exact ⟨_,Tryz.func33,by kernel_rfl⟩
    · cases h; exact ⟨_,Tryz.func34,by kernel_rfl⟩
    · cases h; exact ⟨_,Tryz.func36,by kernel_rfl⟩
    · cases h; exact ⟨_,Tryz.func35,by kernel_rfl⟩
    · cases h; exact ⟨_,Tryz.func47,by kernel_rfl⟩
    · cases h; exact ⟨_,Tryz.func45,by kernel_rfl⟩
    · cases h; exact ⟨_,Tryz.func46,by kernel_rfl⟩
    · cases h; exact ⟨_,Tryz.func49,by kernel_rfl⟩
    · cases h; exact ⟨_,Tryz.func48,by kernel_rfl⟩
    · cases h; exact ⟨_,Tryz.func50,by kernel_rfl⟩
    · cases h; exact ⟨_,Tryz.func39,by kernel_rfl⟩
    · cases h; exact ⟨_,Tryz.func41,by kernel_rfl⟩
    · cases h; exact ⟨_,Tryz.func42,by kernel_rfl⟩
    · cases h; exact ⟨_,Tryz.func40,by kernel_rfl⟩
    · cases h; exact ⟨_,Tryz.func44,by kernel_rfl⟩
    · cases h; exact ⟨_,Tryz.func43,by kernel_rfl⟩
    · cases h; exact ⟨_,Tryz.func55,by kernel_rfl⟩
    · cases h; exact ⟨_,Tryz.func52,by kernel_rfl⟩
    · cases h; exact ⟨_,Tryz.func54,by kernel_rfl⟩
    · cases h; exact ⟨_,Tryz.func53,by kernel_rfl⟩
    · cases h; exact ⟨_,Tryz.func51,by kernel_rfl⟩
    · cases h; exact ⟨_,Tryz.func56,by kernel_rfl⟩
    · cases h; exact ⟨_,Tryz.func58,by kernel_rfl⟩
    · cases h; exact ⟨_,Tryz.func59,by kernel_rfl⟩
    · cases h; exact ⟨_,Tryz.func60,by kernel_rfl⟩
    · cases h; exact ⟨_,Tryz.func37,by kernel_rfl⟩
    · cases h; exact ⟨_,Tryz.func61,by kernel_rfl⟩
    · cases h; exact ⟨_,Tryz.func64,by kernel_rfl⟩
    · cases h; exact ⟨_,Tryz.func63,by kernel_rfl⟩
    · cases h; exact ⟨_,Tryz.func65,by kernel_rfl⟩
    · cases h; exact ⟨_,Tryz.func62,by kernel_rfl⟩
    · cases h; exact ⟨_,Tryz.func67,by kernel_rfl⟩
    · cases h; exact ⟨_,Tryz.func66,by kernel_rfl⟩
    · cases h; exact ⟨_,Tryz.func68,by kernel_rfl⟩
    · cases h; exact ⟨_,Tryz.func71,by kernel_rfl⟩
    · cases h; exact ⟨_,Tryz.func69,by kernel_rfl⟩
    · cases h; exact ⟨_,Tryz.func70,by kernel_rfl⟩
    · cases h; exact ⟨_,Tryz.func73,by kernel_rfl⟩
    · cases h; exact ⟨_,Tryz.func77,by kernel_rfl⟩
    · cases h; exact ⟨_,Tryz.func80,by kernel_rfl⟩
    · cases h; exact ⟨_,Tryz.func78,by kernel_rfl⟩
    · cases h; exact ⟨_,Tryz.func79,by kernel_rfl⟩
    · cases h; exact ⟨_,Tryz.func84,by kernel_rfl⟩
    · cases h; exact ⟨_,Tryz.func83,by kernel_rfl⟩
    · cases h; exact ⟨_,Tryz.func82,by kernel_rfl⟩
    · cases h; exact ⟨_,Tryz.func81,by kernel_rfl⟩
    · cases h; exact ⟨_,Tryz.func86,by kernel_rfl⟩
    · cases h; exact ⟨_,Tryz.func85,by kernel_rfl⟩
    · cases h; exact ⟨_,Tryz.func87,by kernel_rfl⟩
    · cases h; exact ⟨_,Tryz.func88,by kernel_rfl⟩
    · cases h; exact ⟨_,Tryz.func89,by kernel_rfl⟩
    · cases h; exact ⟨_,Tryz.func92,by kernel_rfl⟩
    · cases h; exact ⟨_,Tryz.func93,by kernel_rfl⟩
    · cases h; exact ⟨_,Tryz.func95,by kernel_rfl⟩
    · cases h; exact ⟨_,Tryz.func94,by kernel_rfl⟩
    · cases h; exact ⟨_,Tryz.func101,by kernel_rfl⟩
    · cases h; exact ⟨_,Tryz.func96,by kernel_rfl⟩
    · cases h; exact ⟨_,Tryz.func98,by kernel_rfl⟩
    · cases h; exact ⟨_,Tryz.func99,by kernel_rfl⟩
    · cases h; exact ⟨_,Tryz.func100,by kernel_rfl⟩
    · cases h; exact ⟨_,Tryz.func97,by kernel_rfl⟩
    · cases h; exact ⟨_,Tryz.func102,by kernel_rfl⟩
    · cases h; exact ⟨_,Tryz.func105,by kernel_rfl⟩
    · cases h; exact ⟨_,Tryz.func106,by kernel_rfl⟩
    · cases h; exact ⟨_,Tryz.func104,by kernel_rfl⟩
    · cases h; exact ⟨_,Tryz.func110,by kernel_rfl⟩
    · cases h; exact ⟨_,Tryz.func109,by kernel_rfl⟩
    · cases h; exact ⟨_,Tryz.func111,by kernel_rfl⟩
    · cases h; exact ⟨_,Tryz.func113,by kernel_rfl⟩
    · cases h; exact ⟨_,Tryz.func114,by kernel_rfl⟩
    · cases h; exact ⟨_,Tryz.func112,by kernel_rfl⟩
    · cases h; exact ⟨_,Tryz.func115,by kernel_rfl⟩
    · cases h; exact ⟨_,Tryz.func116,by kernel_rfl⟩
    · cases h; exact ⟨_,Tryz.func117,by kernel_rfl⟩
    · cases h; exact ⟨_,Tryz.func118,by kernel_rfl⟩
    · cases h; exact ⟨_,Tryz.func121,by kernel_rfl⟩
    · cases h; exact ⟨_,Tryz.func119,by kernel_rfl⟩
    · cases h; exact ⟨_,Tryz.func122,by kernel_rfl⟩
    · cases h; exact ⟨_,Tryz.func123,by kernel_rfl⟩
    · cases h; exact ⟨_,Tryz.func124,by kernel_rfl⟩
    · cases h; exact ⟨_,Tryz.func125,by kernel_rfl⟩
    · cases h; exact ⟨_,Tryz.func126,by kernel_rfl⟩
    · cases h; exact ⟨_,Tryz.func127,by kernel_rfl⟩
    · cases h; exact ⟨_,Tryz.func129,by kernel_rfl⟩
    · cases h; exact ⟨_,Tryz.func128,by kernel_rfl⟩
    · cases h; exact ⟨_,Tryz.func134,by kernel_rfl⟩
    · cases h; exact ⟨_,Tryz.func136,by kernel_rfl⟩
    · cases h; exact ⟨_,Tryz.func135,by kernel_rfl⟩
    · cases h; exact ⟨_,Tryz.func130,by kernel_rfl⟩
    · cases h; exact ⟨_,Tryz.func132,by kernel_rfl⟩
    · cases h; exact ⟨_,Tryz.func133,by kernel_rfl⟩
    · cases h; exact ⟨_,Tryz.func131,by kernel_rfl⟩
    · cases h; exact ⟨_,Tryz.func137,by kernel_rfl⟩
    · cases h; exact ⟨_,Tryz.func138,by kernel_rfl⟩
    · cases h; exact ⟨_,Tryz.func139,by kernel_rfl⟩
    · cases h; exact ⟨_,Tryz.func140,by kernel_rfl⟩
    · cases h; exact ⟨_,Tryz.func141,by kernel_rfl⟩
    · cases h; exact ⟨_,Tryz.func144,by kernel_rfl⟩
    · cases h; exact ⟨_,Tryz.func143,by kernel_rfl⟩
    · cases h; exact ⟨_,Tryz.func145,by kernel_rfl⟩
    · cases h; exact ⟨_,Tryz.func146,by kernel_rfl⟩
    · cases h; exact ⟨_,Tryz.func148,by kernel_rfl⟩
    · cases h; exact ⟨_,Tryz.func147,by kernel_rfl⟩
    · cases h; exact ⟨_,Tryz.func142,by kernel_rfl⟩
    · cases h; exact ⟨_,Tryz.func149,by kernel_rfl⟩
  prim f g h := by
    simp only [Γ] at h
    split at h <;> try (cases h; done)
    · cases h; exact prim_join row_strings_Join
    · cases h; exact prim_indexByte row_internal_bytealg_IndexByteString
    · cases h; exact prim_count row_internal_bytealg_CountString
  fresh f g h := by
    simp only [Γ] at h
    split at h <;> try (cases h; done)
    · cases h; exact fresh_clone row_slices_Clone_api_Val_api_Val
  upd f g h := by
    simp only [Γ] at h
    split at h <;> try (cases h; done)
end Ab
