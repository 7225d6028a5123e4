import Derived.Shelf.SlMaps.Clone
import Derived.Test.YtbehhmffelnmfaaGreatDoorProg
set_option linter.all false
namespace Go.Proofs
open Go.Shelf
def Tryz.mcl_ren:Go.Shelf.Ren:=⟨λ|5=>113|7=>179|n=>n,λ|23=>98|25=>9|3=>99|4=>4|20=>20|n=>n,λ|n=>n⟩
theorem Tryz.mcl:Go.Proofs.SlLaysW.n5 Tryz.prog Tryz.mcl_ren:={
 mixed:=by kernel_rfl
 f5:=⟨Tryz.f113.name,by decide,Tryz.func113.trans (congrArg some (by kernel_rfl))⟩
 f7:=Tryz.func179.trans (congrArg some (by kernel_rfl))
 t4:=Tryz.underlying4
 a4:=Tryz.isAgg4
 z4:=Tryz.sizeOf4
 v4:=Tryz.zeroValue4
 t20:=Tryz.underlying20
 a20:=Tryz.isAgg20
 z20:=Tryz.sizeOf20
 v20:=Tryz.zeroValue20
 t23:=Tryz.underlying98
 a23:=Tryz.isAgg98
 z23:=Tryz.sizeOf98
 v23:=Tryz.zeroValue98}
end Go.Proofs
