import Derived.Test.YthecbhbcjnajbaaGreatDoorAbZ6
import Derived.Shelf.SlIter.Nil
import Derived.Shelf.SortM.Plain
import Derived.Shelf.SortM.SortNone
import Derived.KernelRfl
import Derived.Test.YthecbhbcjnajbaaGreatDoorProg
namespace Go.Proofs
open Go.RowKit Go.Maps Go.Sort Go.Shelf
def Tryz.sortedS_ren : Go.Shelf.Ren := ⟨fun | 6 => 56 | 8 => 100 | 9 => 101 | 11 => 149 | 13 => 139 | 12 => 150 | 23 => 183 | 24 => 184 | 14 => 196 | 15 => 197 | 16 => 198 | 17 => 199 | 18 => 200 | 19 => 201 | 20 => 202 | 21 => 203 | 22 => 204 | 25 => 234 | 26 => 221 | 27 => 222 | 28 => 235 | 29 => 236 | 30 => 185 | 31 => 251 | n => n,fun | 26 => 9 | 28 => 129 | 24 => 45 | 0 => 0 | 3 => 3 | 37 => 242 | 48 => 293 | 50 => 245 | 4 => 4 | 40 => 286 | 39 => 285 | 45 => 290 | 5 => 5 | 9 => 9 | 51 => 344 | 55 => 347 | 57 => 366 | 58 => 367 | 33 => 50 | n => n,fun | n => n⟩
theorem Tryz.sortedS : Go.Proofs.SlLaysZ.n6 Tryz.prog Tryz.sortedS_ren := {
 mixed := by kernel_rfl
 f6 := ⟨Tryz.f56.name,by decide,Tryz.func56.trans (congrArg some (by kernel_rfl))⟩
 f8 := ⟨Tryz.f100.name,by decide,Tryz.func100.trans (congrArg some (by kernel_rfl))⟩
 f11 := ⟨Tryz.f149.name,by decide,Tryz.func149.trans (congrArg some (by kernel_rfl))⟩
 t0 := Tryz.underlying0
 a0 := Tryz.isAgg0
 z0 := Tryz.sizeOf0
 v0 := Tryz.zeroValue0
 t24 := Tryz.underlying45
 a24 := Tryz.isAgg45
 z24 := Tryz.sizeOf45
 v24 := Tryz.zeroValue45
 t26 := Tryz.underlying9
 a26 := Tryz.isAgg9
 z26 := Tryz.sizeOf9
 v26 := Tryz.zeroValue9
 t28 := Tryz.underlying129
 a28 := Tryz.isAgg129
 z28 := Tryz.sizeOf129
 v28 := Tryz.zeroValue129
 i26 := by kernel_rfl }
def Tryz.sortS_ren : Go.Shelf.Ren := ⟨fun | 6 => 101 | 8 => 139 | 9 => 150 | 19 => 183 | 20 => 184 | 21 => 196 | 22 => 197 | 23 => 198 | 24 => 199 | 25 => 200 | 26 => 201 | 27 => 202 | 28 => 203 | 29 => 204 | 36 => 234 | 31 => 221 | 32 => 222 | 37 => 235 | 38 => 236 | 39 => 185 | 41 => 251 | n => n,fun | 27 => 45 | 29 => 9 | 3 => 3 | 32 => 242 | 26 => 45 | 0 => 0 | 44 => 293 | 46 => 245 | 4 => 4 | 36 => 286 | 35 => 285 | 41 => 290 | 5 => 5 | 9 => 9 | 53 => 344 | 57 => 347 | 63 => 366 | 64 => 367 | n => n,fun | n => n⟩
theorem Tryz.sortS : Go.Proofs.SlLaysM.n6 Tryz.prog Tryz.sortS_ren := {
 mixed := by kernel_rfl
 f6 := ⟨Tryz.f101.name,by decide,Tryz.func101.trans (congrArg some (by kernel_rfl))⟩
 f8 := Tryz.func139.trans (congrArg some (by kernel_rfl))
 f9 := ⟨Tryz.f150.name,by decide,Tryz.func150.trans (congrArg some (by kernel_rfl))⟩
 f19 := Tryz.func183.trans (congrArg some (by kernel_rfl))
 f20 := Tryz.func184.trans (congrArg some (by kernel_rfl))
 f21 := ⟨Tryz.f196.name,by decide,Tryz.func196.trans (congrArg some (by kernel_rfl))⟩
 f22 := ⟨Tryz.f197.name,by decide,Tryz.func197.trans (congrArg some (by kernel_rfl))⟩
 f23 := ⟨Tryz.f198.name,by decide,Tryz.func198.trans (congrArg some (by kernel_rfl))⟩
 f24 := ⟨Tryz.f199.name,by decide,Tryz.func199.trans (congrArg some (by kernel_rfl))⟩
 f25 := ⟨Tryz.f200.name,by decide,Tryz.func200.trans (congrArg some (by kernel_rfl))⟩
 f26 := ⟨Tryz.f201.name,by decide,Tryz.func201.trans (congrArg some (by kernel_rfl))⟩
 f27 := ⟨Tryz.f202.name,by decide,Tryz.func202.trans (congrArg some (by kernel_rfl))⟩
 f28 := ⟨Tryz.f203.name,by decide,Tryz.func203.trans (congrArg some (by kernel_rfl))⟩
 f29 := ⟨Tryz.f204.name,by decide,Tryz.func204.trans (congrArg some (by kernel_rfl))⟩
 f31 := Tryz.func221.trans (congrArg some (by kernel_rfl))
 f32 := Tryz.func222.trans (congrArg some (by kernel_rfl))
 f36 := ⟨Tryz.f234.name,by decide,Tryz.func234.trans (congrArg some (by kernel_rfl))⟩
 f37 := ⟨Tryz.f235.name,by decide,Tryz.func235.trans (congrArg some (by kernel_rfl))⟩
 f38 := ⟨Tryz.f236.name,by decide,Tryz.func236.trans (congrArg some (by kernel_rfl))⟩
 f39 := ⟨Tryz.f185.name,by decide,Tryz.func185.trans (congrArg some (by kernel_rfl))⟩
 f41 := ⟨Tryz.f251.name,by decide,Tryz.func251.trans (congrArg some (by kernel_rfl))⟩
 t0 := Tryz.underlying0
 a0 := Tryz.isAgg0
 z0 := Tryz.sizeOf0
 v0 := Tryz.zeroValue0
 t3 := Tryz.underlying3
 a3 := Tryz.isAgg3
 z3 := Tryz.sizeOf3
 v3 := Tryz.zeroValue3
 t4 := Tryz.underlying4
 a4 := Tryz.isAgg4
 z4 := Tryz.sizeOf4
 v4 := Tryz.zeroValue4
 t5 := Tryz.underlying5
 a5 := Tryz.isAgg5
 z5 := Tryz.sizeOf5
 v5 := Tryz.zeroValue5
 t9 := Tryz.underlying9
 a9 := Tryz.isAgg9
 z9 := Tryz.sizeOf9
 v9 := Tryz.zeroValue9
 t26 := Tryz.underlying45
 a26 := Tryz.isAgg45
 z26 := Tryz.sizeOf45
 v26 := Tryz.zeroValue45
 t27 := Tryz.underlying45
 a27 := Tryz.isAgg45
 z27 := Tryz.sizeOf45
 v27 := Tryz.zeroValue45
 t29 := Tryz.underlying9
 a29 := Tryz.isAgg9
 z29 := Tryz.sizeOf9
 v29 := Tryz.zeroValue9
 t32 := Tryz.underlying242
 a32 := Tryz.isAgg242
 z32 := Tryz.sizeOf242
 v32 := Tryz.zeroValue242
 t35 := Tryz.underlying285
 a35 := Tryz.isAgg285
 z35 := Tryz.sizeOf285
 v35 := Tryz.zeroValue285
 t36 := Tryz.underlying286
 a36 := Tryz.isAgg286
 z36 := Tryz.sizeOf286
 v36 := Tryz.zeroValue286
 t41 := Tryz.underlying290
 a41 := Tryz.isAgg290
 z41 := Tryz.sizeOf290
 v41 := Tryz.zeroValue290
 t44 := Tryz.underlying293
 a44 := Tryz.isAgg293
 z44 := Tryz.sizeOf293
 v44 := Tryz.zeroValue293
 t46 := Tryz.underlying245
 a46 := Tryz.isAgg245
 z46 := Tryz.sizeOf245
 v46 := Tryz.zeroValue245
 t53 := Tryz.underlying344
 a53 := Tryz.isAgg344
 z53 := Tryz.sizeOf344
 v53 := Tryz.zeroValue344
 t57 := Tryz.underlying347
 a57 := Tryz.isAgg347
 z57 := Tryz.sizeOf347
 v57 := Tryz.zeroValue347
 t63 := Tryz.underlying366
 a63 := Tryz.isAgg366
 z63 := Tryz.sizeOf366
 v63 := Tryz.zeroValue366
 t64 := Tryz.underlying367
 a64 := Tryz.isAgg367
 z64 := Tryz.sizeOf367
 v64 := Tryz.zeroValue367 }
theorem Tryz.sortsS (m : Nat) : AnyZ.SortsIn Tryz.prog Tryz.sortedS_ren Fence.wide m :=
 ⟨fun blk off cap ss W hH hblk hsz => callsIn_wide.2 (AnyM.slices_Sort_string Tryz.sortS blk off cap ss W hH hblk hsz),fun p cap W => callsIn_wide.2 (AnyM.slices_Sort_string_none Tryz.sortS p cap W)⟩
def Tryz.keysS0_ren : Go.Shelf.Ren := ⟨fun | 7 => 57 | 10 => 102 | n => n,fun | 23 => 134 | 26 => 9 | 3 => 115 | 28 => 129 | 0 => 0 | 27 => 128 | 33 => 50 | 4 => 4 | n => n,fun | n => n⟩
theorem Tryz.keysS0 : Go.Proofs.SlLaysZ.n7 Tryz.prog Tryz.keysS0_ren := {
 mixed := by kernel_rfl
 f7 := ⟨Tryz.f57.name,by decide,Tryz.func57.trans (congrArg some (by kernel_rfl))⟩
 f10 := ⟨Tryz.f102.name,by decide,Tryz.func102.trans (congrArg some (by kernel_rfl))⟩
 t0 := Tryz.underlying0
 a0 := Tryz.isAgg0
 z0 := Tryz.sizeOf0
 v0 := Tryz.zeroValue0
 t4 := Tryz.underlying4
 a4 := Tryz.isAgg4
 z4 := Tryz.sizeOf4
 v4 := Tryz.zeroValue4
 t23 := Tryz.underlying134
 a23 := Tryz.isAgg134
 z23 := Tryz.sizeOf134
 v23 := Tryz.zeroValue134
 t26 := Tryz.underlying9
 a26 := Tryz.isAgg9
 z26 := Tryz.sizeOf9
 v26 := Tryz.zeroValue9
 t27 := Tryz.underlying128
 a27 := Tryz.isAgg128
 z27 := Tryz.sizeOf128
 v27 := Tryz.zeroValue128
 t28 := Tryz.underlying129
 a28 := Tryz.isAgg129
 z28 := Tryz.sizeOf129
 v28 := Tryz.zeroValue129
 t33 := Tryz.underlying50
 a33 := Tryz.isAgg50
 z33 := Tryz.sizeOf50
 v33 := Tryz.zeroValue50 }
set_option maxHeartbeats 1000000 in
theorem Tryz.keysOk0 : Ab.KeysOk Tryz.prog 56 102 9 where
 key := by kernel_rfl
 enters := enters_of Tryz.func56 (by kernel_rfl) rfl
 some bm b nn D0 R w hbm hc hown hmax hbytes := by
  have hseq : SeqGives Fence.wide 2 Tryz.prog 102 #[.pointer (some ⟨bm,0,none⟩)] encStr (fun ss => ss.Perm (strKeys D0)) (Maps.size D0) w :=
   AnyZ.keys_gives (ρ := Tryz.keysS0_ren) { Tryz.keysS0 with } Fence.wide _ trivial rfl (by omega) bm b nn D0 w hbm hc hown
  exact (callsIn_wide (n := 5)).1 (AnyZ.sorted_in Tryz.sortedS Fence.wide 5 trivial trivial trivial trivial rfl (by omega) (Tryz.sortsS _) (enters_of Tryz.func101 (by kernel_rfl) rfl) 102 #[.pointer (some ⟨bm,0,none⟩)] trivial (enters_of Tryz.func102 (by kernel_rfl) rfl) _ _ hmax hbytes _ hseq)
 none bm w hbm hc := by
  have hseq : SeqGives Fence.wide 2 Tryz.prog 102 #[.pointer (some ⟨bm,0,none⟩)] encStr (fun ss : List (List UInt8) => ss = []) 0 w :=
   AnyZ.keys_gives_nil (ρ := Tryz.keysS0_ren) { Tryz.keysS0 with } Fence.wide _ trivial rfl bm _ hbm hc
  refine ((callsIn_wide (n := 5)).1 (AnyZ.sorted_in Tryz.sortedS Fence.wide 5 trivial trivial trivial trivial rfl (by omega) (Tryz.sortsS _) (enters_of Tryz.func101 (by kernel_rfl) rfl) 102 #[.pointer (some ⟨bm,0,none⟩)] trivial (enters_of Tryz.func102 (by kernel_rfl) rfl) _ 0 (Nat.zero_le _) (by omega) _ hseq)).mono ?_
  rintro e w' ⟨v,ss,rfl,h1,_,h2,h3⟩
  exact ⟨by rw [h2.2 h1],h3⟩
def Tryz.keysS1_ren : Go.Shelf.Ren := ⟨fun | 7 => 136 | 10 => 174 | n => n,fun | 23 => 82 | 26 => 9 | 3 => 80 | 28 => 129 | 0 => 0 | 27 => 128 | 33 => 50 | 4 => 4 | n => n,fun | n => n⟩
theorem Tryz.keysS1 : Go.Proofs.SlLaysZ.n7 Tryz.prog Tryz.keysS1_ren := {
 mixed := by kernel_rfl
 f7 := ⟨Tryz.f136.name,by decide,Tryz.func136.trans (congrArg some (by kernel_rfl))⟩
 f10 := ⟨Tryz.f174.name,by decide,Tryz.func174.trans (congrArg some (by kernel_rfl))⟩
 t0 := Tryz.underlying0
 a0 := Tryz.isAgg0
 z0 := Tryz.sizeOf0
 v0 := Tryz.zeroValue0
 t4 := Tryz.underlying4
 a4 := Tryz.isAgg4
 z4 := Tryz.sizeOf4
 v4 := Tryz.zeroValue4
 t23 := Tryz.underlying82
 a23 := Tryz.isAgg82
 z23 := Tryz.sizeOf82
 v23 := Tryz.zeroValue82
 t26 := Tryz.underlying9
 a26 := Tryz.isAgg9
 z26 := Tryz.sizeOf9
 v26 := Tryz.zeroValue9
 t27 := Tryz.underlying128
 a27 := Tryz.isAgg128
 z27 := Tryz.sizeOf128
 v27 := Tryz.zeroValue128
 t28 := Tryz.underlying129
 a28 := Tryz.isAgg129
 z28 := Tryz.sizeOf129
 v28 := Tryz.zeroValue129
 t33 := Tryz.underlying50
 a33 := Tryz.isAgg50
 z33 := Tryz.sizeOf50
 v33 := Tryz.zeroValue50 }
set_option maxHeartbeats 1000000 in
theorem Tryz.keysOk1 : Ab.KeysOk Tryz.prog 56 174 9 where
 key := by kernel_rfl
 enters := enters_of Tryz.func56 (by kernel_rfl) rfl
 some bm b nn D0 R w hbm hc hown hmax hbytes := by
  have hseq : SeqGives Fence.wide 2 Tryz.prog 174 #[.pointer (some ⟨bm,0,none⟩)] encStr (fun ss => ss.Perm (strKeys D0)) (Maps.size D0) w :=
   AnyZ.keys_gives (ρ := Tryz.keysS1_ren) { Tryz.keysS1 with } Fence.wide _ trivial rfl (by omega) bm b nn D0 w hbm hc hown
  exact (callsIn_wide (n := 5)).1 (AnyZ.sorted_in Tryz.sortedS Fence.wide 5 trivial trivial trivial trivial rfl (by omega) (Tryz.sortsS _) (enters_of Tryz.func101 (by kernel_rfl) rfl) 174 #[.pointer (some ⟨bm,0,none⟩)] trivial (enters_of Tryz.func174 (by kernel_rfl) rfl) _ _ hmax hbytes _ hseq)
 none bm w hbm hc := by
  have hseq : SeqGives Fence.wide 2 Tryz.prog 174 #[.pointer (some ⟨bm,0,none⟩)] encStr (fun ss : List (List UInt8) => ss = []) 0 w :=
   AnyZ.keys_gives_nil (ρ := Tryz.keysS1_ren) { Tryz.keysS1 with } Fence.wide _ trivial rfl bm _ hbm hc
  refine ((callsIn_wide (n := 5)).1 (AnyZ.sorted_in Tryz.sortedS Fence.wide 5 trivial trivial trivial trivial rfl (by omega) (Tryz.sortsS _) (enters_of Tryz.func101 (by kernel_rfl) rfl) 174 #[.pointer (some ⟨bm,0,none⟩)] trivial (enters_of Tryz.func174 (by kernel_rfl) rfl) _ 0 (Nat.zero_le _) (by omega) _ hseq)).mono ?_
  rintro e w' ⟨v,ss,rfl,h1,_,h2,h3⟩
  exact ⟨by rw [h2.2 h1],h3⟩
end Go.Proofs
