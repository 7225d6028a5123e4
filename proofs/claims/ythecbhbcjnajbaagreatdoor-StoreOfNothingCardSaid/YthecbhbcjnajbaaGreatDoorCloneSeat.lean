import Derived.Shelf.SlMaps.Clone
import Derived.Test.YthecbhbcjnajbaaGreatDoorProg
namespace Go.Proofs
open Go.Shelf
def Tryz.mcl_ren : Go.Shelf.Ren := ⟨fun | 5 => 80 | 7 => 124 | n => n,fun | 23 => 134 | 25 => 9 | 3 => 115 | 4 => 4 | 20 => 20 | n => n,fun | n => n⟩
theorem Tryz.mcl : Go.Proofs.SlLaysW.n5 Tryz.prog Tryz.mcl_ren := {
 mixed := by kernel_rfl
 f5 := ⟨Tryz.f80.name,by decide,Tryz.func80.trans (congrArg some (by kernel_rfl))⟩
 f7 := Tryz.func124.trans (congrArg some (by kernel_rfl))
 t4 := Tryz.underlying4
 a4 := Tryz.isAgg4
 z4 := Tryz.sizeOf4
 v4 := Tryz.zeroValue4
 t20 := Tryz.underlying20
 a20 := Tryz.isAgg20
 z20 := Tryz.sizeOf20
 v20 := Tryz.zeroValue20
 t23 := Tryz.underlying134
 a23 := Tryz.isAgg134
 z23 := Tryz.sizeOf134
 v23 := Tryz.zeroValue134 }
end Go.Proofs
