import Derived.Test.YtbehhmffelnmfaaGreatDoorAbZ6
import Derived.Shelf.SlIter.Nil
import Derived.Shelf.SortM.Plain
import Derived.Shelf.SortM.SortNone
import Derived.KernelRfl
import Derived.Test.YtbehhmffelnmfaaGreatDoorProg
set_option linter.all false
namespace Go.Proofs
open Go.RowKit Go.Maps Go.Sort Go.Shelf
def Tryz.sortedS_ren:Go.Shelf.Ren:=⟨λ|6=>39|8=>84|9=>85|11=>153|13=>155|12=>154|23=>224|24=>225|14=>215|15=>216|16=>217|17=>218|18=>219|19=>220|20=>221|21=>222|22=>223|25=>281|26=>282|27=>283|28=>284|29=>285|30=>286|31=>338|n=>n,λ|26=>9|28=>96|24=>22|0=>0|3=>3|37=>271|48=>344|50=>346|4=>4|40=>337|39=>336|45=>341|5=>5|9=>9|51=>394|55=>398|57=>456|58=>38|33=>81|n=>n,λ|n=>n⟩
theorem Tryz.sortedS:Go.Proofs.SlLaysZ.n6 Tryz.prog Tryz.sortedS_ren:={
 mixed:=by kernel_rfl
 f6:=⟨Tryz.f39.name,by decide,Tryz.func39.trans (congrArg some (by kernel_rfl))⟩
 f8:=⟨Tryz.f84.name,by decide,Tryz.func84.trans (congrArg some (by kernel_rfl))⟩
 f11:=⟨Tryz.f153.name,by decide,Tryz.func153.trans (congrArg some (by kernel_rfl))⟩
 t0:=Tryz.underlying0
 a0:=Tryz.isAgg0
 z0:=Tryz.sizeOf0
 v0:=Tryz.zeroValue0
 t24:=Tryz.underlying22
 a24:=Tryz.isAgg22
 z24:=Tryz.sizeOf22
 v24:=Tryz.zeroValue22
 t26:=Tryz.underlying9
 a26:=Tryz.isAgg9
 z26:=Tryz.sizeOf9
 v26:=Tryz.zeroValue9
 t28:=Tryz.underlying96
 a28:=Tryz.isAgg96
 z28:=Tryz.sizeOf96
 v28:=Tryz.zeroValue96
 i26:=by kernel_rfl}
def Tryz.sortS_ren:Go.Shelf.Ren:=⟨λ|6=>85|8=>155|9=>154|19=>224|20=>225|21=>215|22=>216|23=>217|24=>218|25=>219|26=>220|27=>221|28=>222|29=>223|36=>281|31=>282|32=>283|37=>284|38=>285|39=>286|41=>338|n=>n,λ|27=>22|29=>9|3=>3|32=>271|26=>22|0=>0|44=>344|46=>346|4=>4|36=>337|35=>336|41=>341|5=>5|9=>9|53=>394|57=>398|63=>456|64=>38|n=>n,λ|n=>n⟩
theorem Tryz.sortS:Go.Proofs.SlLaysM.n6 Tryz.prog Tryz.sortS_ren:={
 mixed:=by kernel_rfl
 f6:=⟨Tryz.f85.name,by decide,Tryz.func85.trans (congrArg some (by kernel_rfl))⟩
 f8:=Tryz.func155.trans (congrArg some (by kernel_rfl))
 f9:=⟨Tryz.f154.name,by decide,Tryz.func154.trans (congrArg some (by kernel_rfl))⟩
 f19:=Tryz.func224.trans (congrArg some (by kernel_rfl))
 f20:=Tryz.func225.trans (congrArg some (by kernel_rfl))
 f21:=⟨Tryz.f215.name,by decide,Tryz.func215.trans (congrArg some (by kernel_rfl))⟩
 f22:=⟨Tryz.f216.name,by decide,Tryz.func216.trans (congrArg some (by kernel_rfl))⟩
 f23:=⟨Tryz.f217.name,by decide,Tryz.func217.trans (congrArg some (by kernel_rfl))⟩
 f24:=⟨Tryz.f218.name,by decide,Tryz.func218.trans (congrArg some (by kernel_rfl))⟩
 f25:=⟨Tryz.f219.name,by decide,Tryz.func219.trans (congrArg some (by kernel_rfl))⟩
 f26:=⟨Tryz.f220.name,by decide,Tryz.func220.trans (congrArg some (by kernel_rfl))⟩
 f27:=⟨Tryz.f221.name,by decide,Tryz.func221.trans (congrArg some (by kernel_rfl))⟩
 f28:=⟨Tryz.f222.name,by decide,Tryz.func222.trans (congrArg some (by kernel_rfl))⟩
 f29:=⟨Tryz.f223.name,by decide,Tryz.func223.trans (congrArg some (by kernel_rfl))⟩
 f31:=Tryz.func282.trans (congrArg some (by kernel_rfl))
 f32:=Tryz.func283.trans (congrArg some (by kernel_rfl))
 f36:=⟨Tryz.f281.name,by decide,Tryz.func281.trans (congrArg some (by kernel_rfl))⟩
 f37:=⟨Tryz.f284.name,by decide,Tryz.func284.trans (congrArg some (by kernel_rfl))⟩
 f38:=⟨Tryz.f285.name,by decide,Tryz.func285.trans (congrArg some (by kernel_rfl))⟩
 f39:=⟨Tryz.f286.name,by decide,Tryz.func286.trans (congrArg some (by kernel_rfl))⟩
 f41:=⟨Tryz.f338.name,by decide,Tryz.func338.trans (congrArg some (by kernel_rfl))⟩
 t0:=Tryz.underlying0
 a0:=Tryz.isAgg0
 z0:=Tryz.sizeOf0
 v0:=Tryz.zeroValue0
 t3:=Tryz.underlying3
 a3:=Tryz.isAgg3
 z3:=Tryz.sizeOf3
 v3:=Tryz.zeroValue3
 t4:=Tryz.underlying4
 a4:=Tryz.isAgg4
 z4:=Tryz.sizeOf4
 v4:=Tryz.zeroValue4
 t5:=Tryz.underlying5
 a5:=Tryz.isAgg5
 z5:=Tryz.sizeOf5
 v5:=Tryz.zeroValue5
 t9:=Tryz.underlying9
 a9:=Tryz.isAgg9
 z9:=Tryz.sizeOf9
 v9:=Tryz.zeroValue9
 t26:=Tryz.underlying22
 a26:=Tryz.isAgg22
 z26:=Tryz.sizeOf22
 v26:=Tryz.zeroValue22
 t27:=Tryz.underlying22
 a27:=Tryz.isAgg22
 z27:=Tryz.sizeOf22
 v27:=Tryz.zeroValue22
 t29:=Tryz.underlying9
 a29:=Tryz.isAgg9
 z29:=Tryz.sizeOf9
 v29:=Tryz.zeroValue9
 t32:=Tryz.underlying271
 a32:=Tryz.isAgg271
 z32:=Tryz.sizeOf271
 v32:=Tryz.zeroValue271
 t35:=Tryz.underlying336
 a35:=Tryz.isAgg336
 z35:=Tryz.sizeOf336
 v35:=Tryz.zeroValue336
 t36:=Tryz.underlying337
 a36:=Tryz.isAgg337
 z36:=Tryz.sizeOf337
 v36:=Tryz.zeroValue337
 t41:=Tryz.underlying341
 a41:=Tryz.isAgg341
 z41:=Tryz.sizeOf341
 v41:=Tryz.zeroValue341
 t44:=Tryz.underlying344
 a44:=Tryz.isAgg344
 z44:=Tryz.sizeOf344
 v44:=Tryz.zeroValue344
 t46:=Tryz.underlying346
 a46:=Tryz.isAgg346
 z46:=Tryz.sizeOf346
 v46:=Tryz.zeroValue346
 t53:=Tryz.underlying394
 a53:=Tryz.isAgg394
 z53:=Tryz.sizeOf394
 v53:=Tryz.zeroValue394
 t57:=Tryz.underlying398
 a57:=Tryz.isAgg398
 z57:=Tryz.sizeOf398
 v57:=Tryz.zeroValue398
 t63:=Tryz.underlying456
 a63:=Tryz.isAgg456
 z63:=Tryz.sizeOf456
 v63:=Tryz.zeroValue456
 t64:=Tryz.underlying38
 a64:=Tryz.isAgg38
 z64:=Tryz.sizeOf38
 v64:=Tryz.zeroValue38}
theorem Tryz.sortsS(m:Nat):AnyZ.SortsIn Tryz.prog Tryz.sortedS_ren Fence.wide m:=⟨λblk off cap ss W hH hblk hsz=>callsIn_wide.2 (AnyM.slices_Sort_string Tryz.sortS blk off cap ss W hH hblk hsz),λp cap W=>callsIn_wide.2 (AnyM.slices_Sort_string_none Tryz.sortS p cap W)⟩
def Tryz.keysS0_ren:Go.Shelf.Ren:=⟨λ|7=>40|10=>86|n=>n,λ|23=>98|26=>9|3=>99|28=>96|0=>0|27=>95|33=>81|4=>4|n=>n,λ|n=>n⟩
theorem Tryz.keysS0:Go.Proofs.SlLaysZ.n7 Tryz.prog Tryz.keysS0_ren:={
 mixed:=by kernel_rfl
 f7:=⟨Tryz.f40.name,by decide,Tryz.func40.trans (congrArg some (by kernel_rfl))⟩
 f10:=⟨Tryz.f86.name,by decide,Tryz.func86.trans (congrArg some (by kernel_rfl))⟩
 t0:=Tryz.underlying0
 a0:=Tryz.isAgg0
 z0:=Tryz.sizeOf0
 v0:=Tryz.zeroValue0
 t4:=Tryz.underlying4
 a4:=Tryz.isAgg4
 z4:=Tryz.sizeOf4
 v4:=Tryz.zeroValue4
 t23:=Tryz.underlying98
 a23:=Tryz.isAgg98
 z23:=Tryz.sizeOf98
 v23:=Tryz.zeroValue98
 t26:=Tryz.underlying9
 a26:=Tryz.isAgg9
 z26:=Tryz.sizeOf9
 v26:=Tryz.zeroValue9
 t27:=Tryz.underlying95
 a27:=Tryz.isAgg95
 z27:=Tryz.sizeOf95
 v27:=Tryz.zeroValue95
 t28:=Tryz.underlying96
 a28:=Tryz.isAgg96
 z28:=Tryz.sizeOf96
 v28:=Tryz.zeroValue96
 t33:=Tryz.underlying81
 a33:=Tryz.isAgg81
 z33:=Tryz.sizeOf81
 v33:=Tryz.zeroValue81}
set_option maxHeartbeats 1000000 in
theorem Tryz.keysOk0:Ab.KeysOk Tryz.prog 39 86 9 where
 key:=by kernel_rfl
 enters:=enters_of Tryz.func39 (by kernel_rfl) rfl;some bm b nn D0 R w hbm hc hown hmax hbytes:=by have hseq:SeqGives Fence.wide 2 Tryz.prog 86 #[.pointer (some ⟨bm,0,none⟩)] encStr (λss=>ss.Perm (strKeys D0)) (Maps.size D0) w:=AnyZ.keys_gives (ρ:=Tryz.keysS0_ren) {Tryz.keysS0 with} Fence.wide _ trivial rfl (by omega) bm b nn D0 w hbm hc hown;exact(callsIn_wide (n:=5)).1 (AnyZ.sorted_in Tryz.sortedS Fence.wide 5 trivial trivial trivial trivial rfl (by omega) (Tryz.sortsS _) (enters_of Tryz.func85 (by kernel_rfl) rfl) 86 #[.pointer (some ⟨bm,0,none⟩)] trivial (enters_of Tryz.func86 (by kernel_rfl) rfl) _ _ hmax hbytes _ hseq)
 none bm w hbm hc:=by have hseq:SeqGives Fence.wide 2 Tryz.prog 86 #[.pointer (some ⟨bm,0,none⟩)] encStr (λss:List (List UInt8)=>ss=[]) 0 w:=AnyZ.keys_gives_nil (ρ:=Tryz.keysS0_ren) {Tryz.keysS0 with} Fence.wide _ trivial rfl bm _ hbm hc;refine((callsIn_wide (n:=5)).1 (AnyZ.sorted_in Tryz.sortedS Fence.wide 5 trivial trivial trivial trivial rfl (by omega) (Tryz.sortsS _) (enters_of Tryz.func85 (by kernel_rfl) rfl) 86 #[.pointer (some ⟨bm,0,none⟩)] trivial (enters_of Tryz.func86 (by kernel_rfl) rfl) _ 0 (Nat.zero_le _) (by omega) _ hseq)).mono ?_;rintro e w'⟨v,ss,rfl,h1,_,h2,h3⟩;exact⟨by rw[h2.2 h1],h3⟩
def Tryz.keysS1_ren:Go.Shelf.Ren:=⟨λ|7=>182|10=>252|n=>n,λ|23=>141|26=>9|3=>147|28=>96|0=>0|27=>95|33=>81|4=>4|n=>n,λ|n=>n⟩
theorem Tryz.keysS1:Go.Proofs.SlLaysZ.n7 Tryz.prog Tryz.keysS1_ren:={
 mixed:=by kernel_rfl
 f7:=⟨Tryz.f182.name,by decide,Tryz.func182.trans (congrArg some (by kernel_rfl))⟩
 f10:=⟨Tryz.f252.name,by decide,Tryz.func252.trans (congrArg some (by kernel_rfl))⟩
 t0:=Tryz.underlying0
 a0:=Tryz.isAgg0
 z0:=Tryz.sizeOf0
 v0:=Tryz.zeroValue0
 t4:=Tryz.underlying4
 a4:=Tryz.isAgg4
 z4:=Tryz.sizeOf4
 v4:=Tryz.zeroValue4
 t23:=Tryz.underlying141
 a23:=Tryz.isAgg141
 z23:=Tryz.sizeOf141
 v23:=Tryz.zeroValue141
 t26:=Tryz.underlying9
 a26:=Tryz.isAgg9
 z26:=Tryz.sizeOf9
 v26:=Tryz.zeroValue9
 t27:=Tryz.underlying95
 a27:=Tryz.isAgg95
 z27:=Tryz.sizeOf95
 v27:=Tryz.zeroValue95
 t28:=Tryz.underlying96
 a28:=Tryz.isAgg96
 z28:=Tryz.sizeOf96
 v28:=Tryz.zeroValue96
 t33:=Tryz.underlying81
 a33:=Tryz.isAgg81
 z33:=Tryz.sizeOf81
 v33:=Tryz.zeroValue81}
set_option maxHeartbeats 1000000 in
theorem Tryz.keysOk1:Ab.KeysOk Tryz.prog 39 252 9 where
 key:=by kernel_rfl
 enters:=enters_of Tryz.func39 (by kernel_rfl) rfl;some bm b nn D0 R w hbm hc hown hmax hbytes:=by have hseq:SeqGives Fence.wide 2 Tryz.prog 252 #[.pointer (some ⟨bm,0,none⟩)] encStr (λss=>ss.Perm (strKeys D0)) (Maps.size D0) w:=AnyZ.keys_gives (ρ:=Tryz.keysS1_ren) {Tryz.keysS1 with} Fence.wide _ trivial rfl (by omega) bm b nn D0 w hbm hc hown;exact(callsIn_wide (n:=5)).1 (AnyZ.sorted_in Tryz.sortedS Fence.wide 5 trivial trivial trivial trivial rfl (by omega) (Tryz.sortsS _) (enters_of Tryz.func85 (by kernel_rfl) rfl) 252 #[.pointer (some ⟨bm,0,none⟩)] trivial (enters_of Tryz.func252 (by kernel_rfl) rfl) _ _ hmax hbytes _ hseq)
 none bm w hbm hc:=by have hseq:SeqGives Fence.wide 2 Tryz.prog 252 #[.pointer (some ⟨bm,0,none⟩)] encStr (λss:List (List UInt8)=>ss=[]) 0 w:=AnyZ.keys_gives_nil (ρ:=Tryz.keysS1_ren) {Tryz.keysS1 with} Fence.wide _ trivial rfl bm _ hbm hc;refine((callsIn_wide (n:=5)).1 (AnyZ.sorted_in Tryz.sortedS Fence.wide 5 trivial trivial trivial trivial rfl (by omega) (Tryz.sortsS _) (enters_of Tryz.func85 (by kernel_rfl) rfl) 252 #[.pointer (some ⟨bm,0,none⟩)] trivial (enters_of Tryz.func252 (by kernel_rfl) rfl) _ 0 (Nat.zero_le _) (by omega) _ hseq)).mono ?_;rintro e w'⟨v,ss,rfl,h1,_,h2,h3⟩;exact⟨by rw[h2.2 h1],h3⟩
end Go.Proofs
