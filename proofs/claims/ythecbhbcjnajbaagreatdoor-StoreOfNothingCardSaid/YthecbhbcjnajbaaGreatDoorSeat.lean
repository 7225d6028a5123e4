import Derived.Test.YthecbhbcjnajbaaGreatDoorCode
import Derived.Test.YthecbhbcjnajbaaGreatDoorShelf
import Derived.Test.YthecbhbcjnajbaaGreatDoorAbZ8
import Derived.Test.YthecbhbcjnajbaaGreatDoorCloneSeat
import Derived.Test.YthecbhbcjnajbaaGreatDoorUSeat
import Derived.Test.YthecbhbcjnajbaaGreatDoorPSeat
import Derived.Test.YthecbhbcjnajbaaGreatDoorIterSeat
import Derived.Test.YthecbhbcjnajbaaGreatDoorAbB3
import Derived.KernelRfl
import Derived.Test.YthecbhbcjnajbaaGreatDoorProg
namespace Ab
open Go Go.Proofs
def names : Names := ⟨fun n => [0,46,0,0,1,0,0,0,0,0,0,0,0,0,0,0,40,44,0,0,0,0,0,41,133,0,0,0,10,191,0,0,0,0,0,84,30,83,82,0,0,0,0,0,0,0,0,170,87,0,132,131,62,134,135,63,14,0,0,0,130,128,126,104,105,31,167,127,125,151,152,129,164,165,168,169,216,218,0,217,0,0,243,173,172,171,166,215,158,219,0,0,0,0,0,0,0,0,0,0,0,0,0,0,0,0,0,0,0,0,0,0,0,0,0,0,0,0,0,0,0,0,0,0,0,0,119,0,0,0,0,0,163,0,0,0,211,213,212,214,162,0,239,76,242,241,240,253,252,238,259,0,0,184,0,0,0,0,0,0,51,0,0,0,0,0,0,0,0,0,0,0,0,0,0,0,0,0,0,0,0,0,0,0,0,139,0,0,183,0,0,0,0,0,0,0,0,222,221,0,0,0,0,0,0,0,0,0,0,0,0,0,0,0,0,0,0,0,0,0,0,0,0,0,0,0,0,0,0,0,0,0,0,0,0,0,0,0,0,0,0,0,0,0,0,0,0,0,0,0,0,0,0,0,0,0,0,0,0,0,0,0,0,0,0,0,0,0,0,0,0,0,0,0,0,0,0,0,0,0,0,0,0,0,0,0,0,0,0,0,0,0,0,0,0,0,0,0,0,0,0,0,0,0,0,0,0,0,0,0,0,0,0,0,0,0,0,0,0,0,0,0,0,145,0,0,0,0,0,0,0,0,189,187,188,186,0,0,106,0,0,0,0,225,226,227,228,0,0,156,155,154,153,0,246,245,247,206,207,205,0,0,0,254,237,0,0,0,261,263,260,262,265,264,266,0,0,0,0,273,272,270,271,275,274,232,250,0,0,0,0,0,15,0,19,24,0,28,0,0,292,27,0,0,0,0,0,0,48,47,49,43,45,42,32,61,60,0,0,0,59,0,86,85,91,90,89,88,136,56,140,137,138,174,101,100,185,182,181,180,179,178,177,176,175,149,150,224,223,220,204,203,202,201,200,199,198,197,196,244,236,235,234,251,0,0,0,0,11,12,13,9,8,7,6,5,4,18,21,20,22,17,16,29,26,25,23,39,52,36,50,35,34,33,38,37,57,58,53,81,94,93,92,72,75,74,73,69,68,67,65,64,71,70,80,79,78,77,102,103,95,108,142,114,141,116,115,118,117,66,113,112,110,111,109,107,124,120,123,122,121,143,159,157,3,96,98,99,97,148,147,146,144,160,195,194,193,192,190,208,209,231,230,233,229,249,248,255,258,257,256,267,268,269,54,55].getD n 0,fun n => [0,0,0,0,0,0,0,0,0,0,0,0,0,0,0,0,0,0,0,0,0,0,0,0,0,0,0,0,0,0,0,0,0,0,0,0,0,0,0,0,0,0,0,0,0,0,0,0,0,0,0,0,0,0,0,0,0,0,0,0,0,0,0,0,0,0,0,0,0,0,0,0,0,0,0,0,0,0,0,0,2,1,0,0,0,0,0,0,0,0,0,0,0,0,0,0,0,0,0,0,0,0,0,0,0,0,0,0,0,0,0,0,0,0,0,0,0,0,0,0,0,0,0,0,0,0,0,0,0,0,0,0,0,0,0,0,0,0,0,0,0,0,0,0,0,0,0,0,0,0,0,4,3,0,0,0,0,0,0,0,0,0,0,0,0,0,0,0,0,0,0,0,0,0,0,0,0,0,0,0,0,0,0,0,0,0,0,0,0,0,0,0,0,0,0,0,0,0,0,0,0,0,0,0,0,0,0,0,0,0,0,0,0,0,0,0,0,0,0,0,0,0,0,0,0,0,0,0,0,0,0,0,0,0,0,0,0,0,0,0,0,0,0,0,0,0,0,0,0,0,0,0,0,0,0,0,0,0,0,0,0,0,0,0,0,0,0,0,0,0,0,0,0,0,0,0,0,0,0,0,0,0,0,0,0,0,0,0,0,0,0,0,0,0,0,0,0,0,0,0,0,0,0,0,0,0,0,0,0,0,0,0,0,0,0,0,0,0,0,0,0,0,0,0,0,0,0,0,0,0,0,0,0,0,0,0,0,0,0,0,0,0,0,0,0,0,0,0,0,0,0,0,0,0,0,0,0,0,0,0,0,0,0,0,0,0,0,0,0,0,0,0,0,0,0,0,0,0,0,0,0,0,0,0,0,0,0,0,0,0,0,0,0,0,0,0,0,0,0,0,0,0,0,0,0,0,0,0,0,0,0,0,0,0,0,0,0,0,0,0,0,0,0,0,0,0,0,0,0,0,0,0,0,0,0,0,0,0,0,0,0,0,0,0,0,0,0,0,0,0,0,0,0,0,0,0,0,0,0,0,0,0,0,0,0,0,0,0,0,0,0,0,0,0,0,0,0,0,0,0,0,0,0,0,0,0,0,0,0,0,0,0,0,0,0,0,0,0,0,0,0,0,0,0,0,0,0,0,0,0,0,0,0,0,0,0,0,0,0,0,0,0,0,0,0,0,0,0,0,0,0,0,0,0,0,0,0,0,0,0,0,0,0,0,0,0,0,0,0,0,0,0,0,0,0,0,0,0,0,0,0,0,0,0,0,0,0,0,0,0,0,0,0,0,0,0].getD n 0⟩
theorem row_internal_bytealg_IndexByteString : RowFor Tryz.prog 152 Go.Extern.BytealgIndexByte.indexByte := ⟨Tryz.f152,by kernel_rfl,by kernel_rfl,by kernel_rfl,by kernel_rfl,by kernel_rfl⟩
theorem row_internal_bytealg_CountString : RowFor Tryz.prog 165 Go.Extern.BytealgCount.count := ⟨Tryz.f165,by kernel_rfl,by kernel_rfl,by kernel_rfl,by kernel_rfl,by kernel_rfl⟩
theorem row_strings_ReplaceAll : ReplOk Tryz.prog 39 0 := ⟨Ab.enters_of Tryz.func39 (by kernel_rfl) (by kernel_rfl),fun s old new m w h1 h2 h3 h4 => Any.strings_ReplaceAll Tryz.lays155 Tryz.Builder_Extra_155 s old new m w h1 h2 h3 h4⟩
theorem row_bytes_Join : BJoinOk Tryz.prog 113 := ⟨Ab.enters_of Tryz.func113 (by kernel_rfl) (by kernel_rfl),fun b o c ad0 c0 l0 sv w h1 h2 h3 h4 => Any.bytes_Join_one Tryz.laysSlJ14 b o c ad0 c0 l0 sv w h1 h2 h3 h4,fun b o c p0 c0 sv w h => Any.bytes_Join_one_empty Tryz.laysSlJ14 b o c p0 c0 sv w h,fun b o n c vs ls sv sep w h1 h2 h3 h4 h5 h6 h7 => Any.bytes_Join_many Tryz.laysSlJ14 b o n c vs ls sv sep w h1 h2 h3 h4 h5 h6 h7⟩
theorem row_maps_Clone_map_string_byte_string_byte : MCloneOk Tryz.prog 80 := ⟨Ab.enters_of Tryz.func80 (by kernel_rfl) (by kernel_rfl),fun b es c w h => AnyW.maps_Clone Tryz.mcl b es c w h,fun w => AnyW.maps_Clone_nil Tryz.mcl w⟩
set_option maxRecDepth 100000 in
theorem row_slices_Sorted_string : ∀ K ∈ [518,433],KeysOk Tryz.prog (names.fn 429) (names.fn K) 9 := by
  intro K hK
  simp only [List.mem_cons,List.not_mem_nil,or_false] at hK
  rcases hK with rfl | rfl
  · exact Tryz.keysOk0
  · exact Tryz.keysOk1
theorem row_vfs_FS_Used : UsedOk Tryz.prog 111 := Tryz.usedOk
set_option maxHeartbeats 8000000 in
set_option maxRecDepth 100000 in
theorem known : Known Γ names Tryz.prog where
  mixed := by kernel_rfl
  code f fn h := by
    simp only [Γ] at h
    split at h <;> try (cases h; done)
    · cases h; exact ⟨_,Tryz.func3,by kernel_rfl⟩
    · cases h; exact ⟨_,Tryz.func8,by kernel_rfl⟩
    · cases h; exact ⟨_,Tryz.func5,by kernel_rfl⟩
    · cases h; exact ⟨_,Tryz.func6,by kernel_rfl⟩
    · cases h; exact ⟨_,Tryz.func7,by kernel_rfl⟩
    · cases h; exact ⟨_,Tryz.func12,by kernel_rfl⟩
    · cases h; exact ⟨_,Tryz.func4,by kernel_rfl⟩
    · cases h; exact ⟨_,Tryz.func11,by kernel_rfl⟩
    · cases h; exact ⟨_,Tryz.func13,by kernel_rfl⟩
    · cases h; exact ⟨_,Tryz.func10,by kernel_rfl⟩
    · cases h; exact ⟨_,Tryz.func9,by kernel_rfl⟩
    · cases h; exact ⟨_,Tryz.func20,by kernel_rfl⟩
    · cases h; exact ⟨_,Tryz.func18,by kernel_rfl⟩
    · cases h; exact ⟨_,Tryz.func21,by kernel_rfl⟩
    · cases h; exact ⟨_,Tryz.func16,by kernel_rfl⟩
    · cases h; exact ⟨_,Tryz.func15,by kernel_rfl⟩
    · cases h; exact ⟨_,Tryz.func14,by kernel_rfl⟩
    · cases h; exact ⟨_,Tryz.func17,by kernel_rfl⟩
    · cases h; exact ⟨_,Tryz.func29,by kernel_rfl⟩
    · cases h; exact ⟨_,Tryz.func27,by kernel_rfl⟩
    · cases h; exact ⟨_,Tryz.func25,by kernel_rfl⟩
    · cases h; exact ⟨_,Tryz.func24,by kernel_rfl⟩
    · cases h; exact ⟨_,Tryz.func52,by kernel_rfl⟩
    · cases h; exact ⟨_,Tryz.func51,by kernel_rfl⟩
    · cases h; exact ⟨_,Tryz.func50,by kernel_rfl⟩
    · cases h; exact ⟨_,Tryz.func36,by kernel_rfl⟩
    · cases h; exact ⟨_,Tryz.func35,by kernel_rfl⟩
    · cases h; exact ⟨_,Tryz.func33,by kernel_rfl⟩
    · cases h; exact ⟨_,Tryz.func34,by kernel_rfl⟩
    · cases h; exact ⟨_,Tryz.func32,by kernel_rfl⟩
    · cases h; exact ⟨_,Tryz.func30,by kernel_rfl⟩
    · cases h; exact ⟨_,Tryz.func31,by kernel_rfl⟩
    · cases h; exact ⟨_,Tryz.func38,by kernel_rfl⟩
    · cases h; exact ⟨_,Tryz.func37,by kernel_rfl⟩
    · cases h; exact ⟨_,Tryz.func59,by kernel_rfl⟩
    · cases h; exact ⟨_,Tryz.func57,by kernel_rfl⟩
    · cases h; exact ⟨_,Tryz.func63,by kernel_rfl⟩
    · cases h; exact ⟨_,Tryz.func54,by kernel_rfl⟩
    · cases h; exact ⟨_,Tryz.func55,by kernel_rfl⟩
    · cases h; exact ⟨_,Tryz.func93,by kernel_rfl⟩
    · cases h; exact ⟨_,Tryz.func76,by kernel_rfl⟩
    · cases h; exact ⟨_,Tryz.func94,by kernel_rfl⟩
    · cases h; exact ⟨_,Tryz.func92,by kernel_rfl⟩
    · cases h; exact ⟨_,Tryz.func74,by kernel_rfl⟩
    · cases h; exact ⟨_,Tryz.func73,by kernel_rfl⟩
    · cases h; exact ⟨_,Tryz.func75,by kernel_rfl⟩
    · cases h; exact ⟨_,Tryz.func72,by kernel_rfl⟩
    · cases h; exact ⟨_,Tryz.func65,by kernel_rfl⟩
    · cases h; exact ⟨_,Tryz.func67,by kernel_rfl⟩
    · cases h; exact ⟨_,Tryz.func68,by kernel_rfl⟩
    · cases h; exact ⟨_,Tryz.func64,by kernel_rfl⟩
    · cases h; exact ⟨_,Tryz.func71,by kernel_rfl⟩
    · cases h; exact ⟨_,Tryz.func70,by kernel_rfl⟩
    · cases h; exact ⟨_,Tryz.func62,by kernel_rfl⟩
    · cases h; exact ⟨_,Tryz.func77,by kernel_rfl⟩
    · cases h; exact ⟨_,Tryz.func78,by kernel_rfl⟩
    · cases h; exact ⟨_,Tryz.func105,by kernel_rfl⟩
    · cases h; exact ⟨_,Tryz.func96,by kernel_rfl⟩
    · cases h; exact ⟨_,Tryz.func98,by kernel_rfl⟩
    · cases h; exact ⟨_,Tryz.func97,by kernel_rfl⟩
    · cases h; exact ⟨_,Tryz.func142,by kernel_rfl⟩
    · cases h; exact ⟨_,Tryz.func108,by kernel_rfl⟩
    · cases h; exact ⟨_,Tryz.func119,by kernel_rfl⟩
    · cases h; exact ⟨_,Tryz.func114,by kernel_rfl⟩
    · cases h; exact ⟨_,Tryz.func115,by kernel_rfl⟩
    · cases h; exact ⟨_,Tryz.func116,by kernel_rfl⟩
    · cases h; exact ⟨_,Tryz.func117,by kernel_rfl⟩
    · cases h; exact ⟨_,Tryz.func118,by kernel_rfl⟩
    · cases h; exact ⟨_,Tryz.func66,by kernel_rfl⟩
    · cases h; exact ⟨_,Tryz.func112,by kernel_rfl⟩
    · cases h; exact ⟨_,Tryz.func109,by kernel_rfl⟩
    · cases h; exact ⟨_,Tryz.func110,by kernel_rfl⟩
    · cases h; exact ⟨_,Tryz.func107,by kernel_rfl⟩
    · cases h; exact ⟨_,Tryz.func104,by kernel_rfl⟩
    · cases h; exact ⟨_,Tryz.func120,by kernel_rfl⟩
    · cases h; exact ⟨_,Tryz.func122,by kernel_rfl⟩
    · cases h; exact ⟨_,Tryz.func121,by kernel_rfl⟩
    · cases h; exact ⟨_,Tryz.func143,by kernel_rfl⟩
    · cases h; exact ⟨_,Tryz.func145,by kernel_rfl⟩
    · cases h; exact ⟨_,Tryz.func146,by kernel_rfl⟩
    · cases h; exact ⟨_,Tryz.func144,by kernel_rfl⟩
    · cases h; exact ⟨_,Tryz.func159,by kernel_rfl⟩
    · cases h; exact ⟨_,Tryz.func106,by kernel_rfl⟩
    · cases h; exact ⟨_,Tryz.func157,by kernel_rfl⟩
    · cases h; exact ⟨_,Tryz.func125,by kernel_rfl⟩
    · cases h; exact ⟨_,Tryz.func127,by kernel_rfl⟩
    · cases h; exact ⟨_,Tryz.func160,by kernel_rfl⟩
    · cases h; exact ⟨_,Tryz.func186,by kernel_rfl⟩
    · cases h; exact ⟨_,Tryz.func189,by kernel_rfl⟩
    · cases h; exact ⟨_,Tryz.func187,by kernel_rfl⟩
    · cases h; exact ⟨_,Tryz.func188,by kernel_rfl⟩
    · cases h; exact ⟨_,Tryz.func190,by kernel_rfl⟩
    · cases h; exact ⟨_,Tryz.func154,by kernel_rfl⟩
    · cases h; exact ⟨_,Tryz.func155,by kernel_rfl⟩
    · cases h; exact ⟨_,Tryz.func156,by kernel_rfl⟩
    · cases h; exact ⟨_,Tryz.func153,by kernel_rfl⟩
    · cases h; exact ⟨_,Tryz.func168,by kernel_rfl⟩
    · cases h; exact ⟨_,Tryz.func208,by kernel_rfl⟩
    · cases h; exact ⟨_,Tryz.func209,by kernel_rfl⟩
    · cases h; exact ⟨_,Tryz.func225,by kernel_rfl⟩
    · cases h; exact ⟨_,Tryz.func226,by kernel_rfl⟩
    · cases h; exact ⟨_,Tryz.func229,by kernel_rfl⟩
    · cases h; exact ⟨_,Tryz.func192,by kernel_rfl⟩
    · cases h; exact ⟨_,Tryz.func206,by kernel_rfl⟩
    · cases h; exact ⟨_,Tryz.func207,by kernel_rfl⟩
    · cases h; exact ⟨_,Tryz.func205,by kernel_rfl⟩
    · cases h; exact ⟨_,Tryz.func246,by kernel_rfl⟩
    · cases h; exact ⟨_,Tryz.func245,by kernel_rfl⟩
    · cases h; exact ⟨_,Tryz.func247,by kernel_rfl⟩
    · cases h; exact ⟨_,Tryz.func248,by kernel_rfl⟩
    · cases h; exact ⟨_,Tryz.func249,by kernel_rfl⟩
    · cases h; exact ⟨_,Tryz.func230,by kernel_rfl⟩
    · cases h; exact ⟨_,Tryz.func238,by kernel_rfl⟩
    · cases h; exact ⟨_,Tryz.func254,by kernel_rfl⟩
    · cases h; exact ⟨_,Tryz.func193,by kernel_rfl⟩
    · cases h; exact ⟨_,Tryz.func194,by kernel_rfl⟩
    · cases h; exact ⟨_,Tryz.func255,by kernel_rfl⟩
    · cases h; exact ⟨_,Tryz.func257,by kernel_rfl⟩
    · cases h; exact ⟨_,Tryz.func256,by kernel_rfl⟩
    · cases h; exact ⟨_,Tryz.func258,by kernel_rfl⟩
    · cases h; exact ⟨_,Tryz.func262,by kernel_rfl⟩
    · cases h; exact ⟨_,Tryz.func263,by kernel_rfl⟩
    · cases h; exact ⟨_,Tryz.func261,by kernel_rfl⟩
    · cases h; exact ⟨_,Tryz.func231,by kernel_rfl⟩
    · cases h; exact ⟨_,Tryz.func267,by kernel_rfl⟩
    · cases h; exact ⟨_,Tryz.func268,by kernel_rfl⟩
    · cases h; exact ⟨_,Tryz.func269,by kernel_rfl⟩
    · cases h; exact ⟨_,Tryz.func250,by kernel_rfl⟩
  prim f g h := by
    simp only [Γ] at h
    split at h <;> try (cases h; done)
    · cases h; exact prim_repl (gv := 78) (by decide) row_strings_ReplaceAll
    · cases h; exact prim_bjoin row_bytes_Join
    · cases h; exact prim_indexByte row_internal_bytealg_IndexByteString
    · cases h; exact prim_count row_internal_bytealg_CountString
  fresh f g h := by
    simp only [Γ] at h
    split at h <;> try (cases h; done)
  upd f g h := by
    simp only [Γ] at h
    split at h <;> try (cases h; done)
  look f g h := by
    simp only [Γ] at h
    split at h <;> try (cases h; done)
    · cases h; exact look_keys row_slices_Sorted_string
    · cases h; exact look_used row_vfs_FS_Used
  lookc f c q g h := by
    simp only [Γ] at h
    split at h <;> try (cases h; done)
  hi f g h := by
    simp only [Γ] at h
    split at h <;> try (cases h; done)
    · cases h; exact Tryz.parse_ok (by rfl) (by rfl) (by rfl) (by rfl) (by kernel_rfl) (by kernel_rfl) (by kernel_rfl)
    · cases h; exact hi_mclone row_maps_Clone_map_string_byte_string_byte
end Ab
