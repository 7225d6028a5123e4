import Derived.Test.YtieagbclljmnlaaGreatDoorAbZ6
import Derived.Shelf.SlIter.Nil
import Derived.Shelf.SortM.Plain
import Derived.Shelf.SortM.SortNone
import Derived.KernelRfl
import Derived.Test.YtieagbclljmnlaaGreatDoorProg
namespace Go.Proofs
open Go.RowKit Go.Maps Go.Sort Go.Shelf
def Tryz.sortedS_ren : Go.Shelf.Ren := ⟨fun | 6 => 70 | 8 => 88 | 9 => 89 | 11 => 112 | 13 => 77 | 12 => 113 | 23 => 101 | 24 => 102 | 14 => 125 | 15 => 126 | 16 => 127 | 17 => 128 | 18 => 129 | 19 => 130 | 20 => 131 | 21 => 132 | 22 => 133 | 25 => 137 | 26 => 117 | 27 => 118 | 28 => 138 | 29 => 139 | 30 => 103 | 31 => 141 | n => n,fun | 26 => 9 | 28 => 110 | 24 => 22 | 0 => 0 | 3 => 3 | 37 => 125 | 48 => 146 | 50 => 148 | 4 => 4 | 40 => 139 | 39 => 138 | 45 => 143 | 5 => 5 | 9 => 9 | 51 => 160 | 55 => 164 | 57 => 173 | 58 => 174 | 33 => 23 | n => n,fun | n => n⟩
theorem Tryz.sortedS : Go.Proofs.SlLaysZ.n6 Tryz.prog Tryz.sortedS_ren := {
 mixed := by kernel_rfl
 f6 := ⟨Tryz.f70.name,by decide,Tryz.func70.trans (congrArg some (by kernel_rfl))⟩
 f8 := ⟨Tryz.f88.name,by decide,Tryz.func88.trans (congrArg some (by kernel_rfl))⟩
 f11 := ⟨Tryz.f112.name,by decide,Tryz.func112.trans (congrArg some (by kernel_rfl))⟩
 t0 := Tryz.underlying0
 a0 := Tryz.isAgg0
 z0 := Tryz.sizeOf0
 v0 := Tryz.zeroValue0
 t24 := Tryz.underlying22
 a24 := Tryz.isAgg22
 z24 := Tryz.sizeOf22
 v24 := Tryz.zeroValue22
 t26 := Tryz.underlying9
 a26 := Tryz.isAgg9
 z26 := Tryz.sizeOf9
 v26 := Tryz.zeroValue9
 t28 := Tryz.underlying110
 a28 := Tryz.isAgg110
 z28 := Tryz.sizeOf110
 v28 := Tryz.zeroValue110
 i26 := by kernel_rfl }
def Tryz.sortS_ren : Go.Shelf.Ren := ⟨fun | 6 => 89 | 8 => 77 | 9 => 113 | 19 => 101 | 20 => 102 | 21 => 125 | 22 => 126 | 23 => 127 | 24 => 128 | 25 => 129 | 26 => 130 | 27 => 131 | 28 => 132 | 29 => 133 | 36 => 137 | 31 => 117 | 32 => 118 | 37 => 138 | 38 => 139 | 39 => 103 | 41 => 141 | n => n,fun | 27 => 22 | 29 => 9 | 3 => 3 | 32 => 125 | 26 => 22 | 0 => 0 | 44 => 146 | 46 => 148 | 4 => 4 | 36 => 139 | 35 => 138 | 41 => 143 | 5 => 5 | 9 => 9 | 53 => 160 | 57 => 164 | 63 => 173 | 64 => 174 | n => n,fun | n => n⟩
theorem Tryz.sortS : Go.Proofs.SlLaysM.n6 Tryz.prog Tryz.sortS_ren := {
 mixed := by kernel_rfl
 f6 := ⟨Tryz.f89.name,by decide,Tryz.func89.trans (congrArg some (by kernel_rfl))⟩
 f8 := Tryz.func77.trans (congrArg some (by kernel_rfl))
 f9 := ⟨Tryz.f113.name,by decide,Tryz.func113.trans (congrArg some (by kernel_rfl))⟩
 f19 := Tryz.func101.trans (congrArg some (by kernel_rfl))
 f20 := Tryz.func102.trans (congrArg some (by kernel_rfl))
 f21 := ⟨Tryz.f125.name,by decide,Tryz.func125.trans (congrArg some (by kernel_rfl))⟩
 f22 := ⟨Tryz.f126.name,by decide,Tryz.func126.trans (congrArg some (by kernel_rfl))⟩
 f23 := ⟨Tryz.f127.name,by decide,Tryz.func127.trans (congrArg some (by kernel_rfl))⟩
 f24 := ⟨Tryz.f128.name,by decide,Tryz.func128.trans (congrArg some (by kernel_rfl))⟩
 f25 := ⟨Tryz.f129.name,by decide,Tryz.func129.trans (congrArg some (by kernel_rfl))⟩
 f26 := ⟨Tryz.f130.name,by decide,Tryz.func130.trans (congrArg some (by kernel_rfl))⟩
 f27 := ⟨Tryz.f131.name,by decide,Tryz.func131.trans (congrArg some (by kernel_rfl))⟩
 f28 := ⟨Tryz.f132.name,by decide,Tryz.func132.trans (congrArg some (by kernel_rfl))⟩
 f29 := ⟨Tryz.f133.name,by decide,Tryz.func133.trans (congrArg some (by kernel_rfl))⟩
 f31 := Tryz.func117.trans (congrArg some (by kernel_rfl))
 f32 := Tryz.func118.trans (congrArg some (by kernel_rfl))
 f36 := ⟨Tryz.f137.name,by decide,Tryz.func137.trans (congrArg some (by kernel_rfl))⟩
 f37 := ⟨Tryz.f138.name,by decide,Tryz.func138.trans (congrArg some (by kernel_rfl))⟩
 f38 := ⟨Tryz.f139.name,by decide,Tryz.func139.trans (congrArg some (by kernel_rfl))⟩
 f39 := ⟨Tryz.f103.name,by decide,Tryz.func103.trans (congrArg some (by kernel_rfl))⟩
 f41 := ⟨Tryz.f141.name,by decide,Tryz.func141.trans (congrArg some (by kernel_rfl))⟩
 t0 := Tryz.underlying0
 a0 := Tryz.isAgg0
 z0 := Tryz.sizeOf0
 v0 := Tryz.zeroValue0
 t3 := Tryz.underlying3
 a3 := Tryz.isAgg3
 z3 := Tryz.sizeOf3
 v3 := Tryz.zeroValue3
 t4 := Tryz.underlying4
 a4 := Tryz.isAgg4
 z4 := Tryz.sizeOf4
 v4 := Tryz.zeroValue4
 t5 := Tryz.underlying5
 a5 := Tryz.isAgg5
 z5 := Tryz.sizeOf5
 v5 := Tryz.zeroValue5
 t9 := Tryz.underlying9
 a9 := Tryz.isAgg9
 z9 := Tryz.sizeOf9
 v9 := Tryz.zeroValue9
 t26 := Tryz.underlying22
 a26 := Tryz.isAgg22
 z26 := Tryz.sizeOf22
 v26 := Tryz.zeroValue22
 t27 := Tryz.underlying22
 a27 := Tryz.isAgg22
 z27 := Tryz.sizeOf22
 v27 := Tryz.zeroValue22
 t29 := Tryz.underlying9
 a29 := Tryz.isAgg9
 z29 := Tryz.sizeOf9
 v29 := Tryz.zeroValue9
 t32 := Tryz.underlying125
 a32 := Tryz.isAgg125
 z32 := Tryz.sizeOf125
 v32 := Tryz.zeroValue125
 t35 := Tryz.underlying138
 a35 := Tryz.isAgg138
 z35 := Tryz.sizeOf138
 v35 := Tryz.zeroValue138
 t36 := Tryz.underlying139
 a36 := Tryz.isAgg139
 z36 := Tryz.sizeOf139
 v36 := Tryz.zeroValue139
 t41 := Tryz.underlying143
 a41 := Tryz.isAgg143
 z41 := Tryz.sizeOf143
 v41 := Tryz.zeroValue143
 t44 := Tryz.underlying146
 a44 := Tryz.isAgg146
 z44 := Tryz.sizeOf146
 v44 := Tryz.zeroValue146
 t46 := Tryz.underlying148
 a46 := Tryz.isAgg148
 z46 := Tryz.sizeOf148
 v46 := Tryz.zeroValue148
 t53 := Tryz.underlying160
 a53 := Tryz.isAgg160
 z53 := Tryz.sizeOf160
 v53 := Tryz.zeroValue160
 t57 := Tryz.underlying164
 a57 := Tryz.isAgg164
 z57 := Tryz.sizeOf164
 v57 := Tryz.zeroValue164
 t63 := Tryz.underlying173
 a63 := Tryz.isAgg173
 z63 := Tryz.sizeOf173
 v63 := Tryz.zeroValue173
 t64 := Tryz.underlying174
 a64 := Tryz.isAgg174
 z64 := Tryz.sizeOf174
 v64 := Tryz.zeroValue174 }
theorem Tryz.sortsS (m : Nat) : AnyZ.SortsIn Tryz.prog Tryz.sortedS_ren Fence.wide m :=
 ⟨fun blk off cap ss W hH hblk hsz => callsIn_wide.2 (AnyM.slices_Sort_string Tryz.sortS blk off cap ss W hH hblk hsz),fun p cap W => callsIn_wide.2 (AnyM.slices_Sort_string_none Tryz.sortS p cap W)⟩
def Tryz.keysS0_ren : Go.Shelf.Ren := ⟨fun | 7 => 71 | 10 => 90 | n => n,fun | 23 => 51 | 26 => 9 | 3 => 63 | 28 => 110 | 0 => 0 | 27 => 109 | 33 => 23 | 4 => 4 | n => n,fun | n => n⟩
theorem Tryz.keysS0 : Go.Proofs.SlLaysZ.n7 Tryz.prog Tryz.keysS0_ren := {
 mixed := by kernel_rfl
 f7 := ⟨Tryz.f71.name,by decide,Tryz.func71.trans (congrArg some (by kernel_rfl))⟩
 f10 := ⟨Tryz.f90.name,by decide,Tryz.func90.trans (congrArg some (by kernel_rfl))⟩
 t0 := Tryz.underlying0
 a0 := Tryz.isAgg0
 z0 := Tryz.sizeOf0
 v0 := Tryz.zeroValue0
 t4 := Tryz.underlying4
 a4 := Tryz.isAgg4
 z4 := Tryz.sizeOf4
 v4 := Tryz.zeroValue4
 t23 := Tryz.underlying51
 a23 := Tryz.isAgg51
 z23 := Tryz.sizeOf51
 v23 := Tryz.zeroValue51
 t26 := Tryz.underlying9
 a26 := Tryz.isAgg9
 z26 := Tryz.sizeOf9
 v26 := Tryz.zeroValue9
 t27 := Tryz.underlying109
 a27 := Tryz.isAgg109
 z27 := Tryz.sizeOf109
 v27 := Tryz.zeroValue109
 t28 := Tryz.underlying110
 a28 := Tryz.isAgg110
 z28 := Tryz.sizeOf110
 v28 := Tryz.zeroValue110
 t33 := Tryz.underlying23
 a33 := Tryz.isAgg23
 z33 := Tryz.sizeOf23
 v33 := Tryz.zeroValue23 }
set_option maxHeartbeats 1000000 in
theorem Tryz.keysOk0 : Ab.KeysOk Tryz.prog 70 90 9 where
 key := by kernel_rfl
 enters := enters_of Tryz.func70 (by kernel_rfl) rfl
 some bm b nn D0 R w hbm hc hown hmax hbytes := by
  have hseq : SeqGives Fence.wide 2 Tryz.prog 90 #[.pointer (some ⟨bm,0,none⟩)] encStr (fun ss => ss.Perm (strKeys D0)) (Maps.size D0) w :=
   AnyZ.keys_gives (ρ := Tryz.keysS0_ren) { Tryz.keysS0 with } Fence.wide _ trivial rfl (by omega) bm b nn D0 w hbm hc hown
  exact (callsIn_wide (n := 5)).1 (AnyZ.sorted_in Tryz.sortedS Fence.wide 5 trivial trivial trivial trivial rfl (by omega) (Tryz.sortsS _) (enters_of Tryz.func89 (by kernel_rfl) rfl) 90 #[.pointer (some ⟨bm,0,none⟩)] trivial (enters_of Tryz.func90 (by kernel_rfl) rfl) _ _ hmax hbytes _ hseq)
 none bm w hbm hc := by
  have hseq : SeqGives Fence.wide 2 Tryz.prog 90 #[.pointer (some ⟨bm,0,none⟩)] encStr (fun ss : List (List UInt8) => ss = []) 0 w :=
   AnyZ.keys_gives_nil (ρ := Tryz.keysS0_ren) { Tryz.keysS0 with } Fence.wide _ trivial rfl bm _ hbm hc
  refine ((callsIn_wide (n := 5)).1 (AnyZ.sorted_in Tryz.sortedS Fence.wide 5 trivial trivial trivial trivial rfl (by omega) (Tryz.sortsS _) (enters_of Tryz.func89 (by kernel_rfl) rfl) 90 #[.pointer (some ⟨bm,0,none⟩)] trivial (enters_of Tryz.func90 (by kernel_rfl) rfl) _ 0 (Nat.zero_le _) (by omega) _ hseq)).mono ?_
  rintro e w' ⟨v,ss,rfl,h1,_,h2,h3⟩
  exact ⟨by rw [h2.2 h1],h3⟩
end Go.Proofs
