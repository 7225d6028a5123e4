import Derived.Test.YtlgclfmmnifgoaaGreatDoorAbDrawn
import Derived.Shelf.SlIter.Nil
import Derived.Shelf.SortM.Plain
import Derived.Shelf.SortM.SortNone
import Derived.KernelRfl
import Derived.Test.YtlgclfmmnifgoaaGreatDoorProg
namespace Go.Proofs
open Go.RowKit Go.Maps Go.Sort Go.Shelf
def Tryz.sortedS_ren : Go.Shelf.Ren := ⟨fun | 6 => 28 | 8 => 64 | 9 => 65 | 11 => 116 | 13 => 118 | 12 => 117 | 23 => 175 | 24 => 176 | 14 => 166 | 15 => 167 | 16 => 168 | 17 => 169 | 18 => 170 | 19 => 171 | 20 => 172 | 21 => 173 | 22 => 174 | 25 => 223 | 26 => 224 | 27 => 225 | 28 => 226 | 29 => 227 | 30 => 228 | 31 => 263 | n => n,fun | 26 => 9 | 28 => 73 | 24 => 22 | 0 => 0 | 3 => 3 | 37 => 226 | 48 => 286 | 50 => 288 | 4 => 4 | 40 => 279 | 39 => 278 | 45 => 283 | 5 => 5 | 9 => 9 | 51 => 325 | 55 => 329 | 57 => 366 | 58 => 38 | 33 => 55 | n => n,fun | n => n⟩
theorem Tryz.sortedS : Go.Proofs.SlLaysZ.n6 Tryz.prog Tryz.sortedS_ren := {
 mixed := by kernel_rfl
 f6 := ⟨Tryz.f28.name,by decide,Tryz.func28.trans (congrArg some (by kernel_rfl))⟩
 f8 := ⟨Tryz.f64.name,by decide,Tryz.func64.trans (congrArg some (by kernel_rfl))⟩
 f11 := ⟨Tryz.f116.name,by decide,Tryz.func116.trans (congrArg some (by kernel_rfl))⟩
 t0 := Tryz.underlying0
 a0 := Tryz.isAgg0
 z0 := Tryz.sizeOf0
 v0 := Tryz.zeroValue0
 t24 := Tryz.underlying22
 a24 := Tryz.isAgg22
 z24 := Tryz.sizeOf22
 v24 := Tryz.zeroValue22
 t26 := Tryz.underlying9
 a26 := Tryz.isAgg9
 z26 := Tryz.sizeOf9
 v26 := Tryz.zeroValue9
 t28 := Tryz.underlying73
 a28 := Tryz.isAgg73
 z28 := Tryz.sizeOf73
 v28 := Tryz.zeroValue73
 i26 := by kernel_rfl }
def Tryz.sortS_ren : Go.Shelf.Ren := ⟨fun | 6 => 65 | 8 => 118 | 9 => 117 | 19 => 175 | 20 => 176 | 21 => 166 | 22 => 167 | 23 => 168 | 24 => 169 | 25 => 170 | 26 => 171 | 27 => 172 | 28 => 173 | 29 => 174 | 36 => 223 | 31 => 224 | 32 => 225 | 37 => 226 | 38 => 227 | 39 => 228 | 41 => 263 | n => n,fun | 27 => 22 | 29 => 9 | 3 => 3 | 32 => 226 | 26 => 22 | 0 => 0 | 44 => 286 | 46 => 288 | 4 => 4 | 36 => 279 | 35 => 278 | 41 => 283 | 5 => 5 | 9 => 9 | 53 => 325 | 57 => 329 | 63 => 366 | 64 => 38 | n => n,fun | n => n⟩
theorem Tryz.sortS : Go.Proofs.SlLaysM.n6 Tryz.prog Tryz.sortS_ren := {
 mixed := by kernel_rfl
 f6 := ⟨Tryz.f65.name,by decide,Tryz.func65.trans (congrArg some (by kernel_rfl))⟩
 f8 := Tryz.func118.trans (congrArg some (by kernel_rfl))
 f9 := ⟨Tryz.f117.name,by decide,Tryz.func117.trans (congrArg some (by kernel_rfl))⟩
 f19 := Tryz.func175.trans (congrArg some (by kernel_rfl))
 f20 := Tryz.func176.trans (congrArg some (by kernel_rfl))
 f21 := ⟨Tryz.f166.name,by decide,Tryz.func166.trans (congrArg some (by kernel_rfl))⟩
 f22 := ⟨Tryz.f167.name,by decide,Tryz.func167.trans (congrArg some (by kernel_rfl))⟩
 f23 := ⟨Tryz.f168.name,by decide,Tryz.func168.trans (congrArg some (by kernel_rfl))⟩
 f24 := ⟨Tryz.f169.name,by decide,Tryz.func169.trans (congrArg some (by kernel_rfl))⟩
 f25 := ⟨Tryz.f170.name,by decide,Tryz.func170.trans (congrArg some (by kernel_rfl))⟩
 f26 := ⟨Tryz.f171.name,by decide,Tryz.func171.trans (congrArg some (by kernel_rfl))⟩
 f27 := ⟨Tryz.f172.name,by decide,Tryz.func172.trans (congrArg some (by kernel_rfl))⟩
 f28 := ⟨Tryz.f173.name,by decide,Tryz.func173.trans (congrArg some (by kernel_rfl))⟩
 f29 := ⟨Tryz.f174.name,by decide,Tryz.func174.trans (congrArg some (by kernel_rfl))⟩
 f31 := Tryz.func224.trans (congrArg some (by kernel_rfl))
 f32 := Tryz.func225.trans (congrArg some (by kernel_rfl))
 f36 := ⟨Tryz.f223.name,by decide,Tryz.func223.trans (congrArg some (by kernel_rfl))⟩
 f37 := ⟨Tryz.f226.name,by decide,Tryz.func226.trans (congrArg some (by kernel_rfl))⟩
 f38 := ⟨Tryz.f227.name,by decide,Tryz.func227.trans (congrArg some (by kernel_rfl))⟩
 f39 := ⟨Tryz.f228.name,by decide,Tryz.func228.trans (congrArg some (by kernel_rfl))⟩
 f41 := ⟨Tryz.f263.name,by decide,Tryz.func263.trans (congrArg some (by kernel_rfl))⟩
 t0 := Tryz.underlying0
 a0 := Tryz.isAgg0
 z0 := Tryz.sizeOf0
 v0 := Tryz.zeroValue0
 t3 := Tryz.underlying3
 a3 := Tryz.isAgg3
 z3 := Tryz.sizeOf3
 v3 := Tryz.zeroValue3
 t4 := Tryz.underlying4
 a4 := Tryz.isAgg4
 z4 := Tryz.sizeOf4
 v4 := Tryz.zeroValue4
 t5 := Tryz.underlying5
 a5 := Tryz.isAgg5
 z5 := Tryz.sizeOf5
 v5 := Tryz.zeroValue5
 t9 := Tryz.underlying9
 a9 := Tryz.isAgg9
 z9 := Tryz.sizeOf9
 v9 := Tryz.zeroValue9
 t26 := Tryz.underlying22
 a26 := Tryz.isAgg22
 z26 := Tryz.sizeOf22
 v26 := Tryz.zeroValue22
 t27 := Tryz.underlying22
 a27 := Tryz.isAgg22
 z27 := Tryz.sizeOf22
 v27 := Tryz.zeroValue22
 t29 := Tryz.underlying9
 a29 := Tryz.isAgg9
 z29 := Tryz.sizeOf9
 v29 := Tryz.zeroValue9
 t32 := Tryz.underlying226
 a32 := Tryz.isAgg226
 z32 := Tryz.sizeOf226
 v32 := Tryz.zeroValue226
 t35 := Tryz.underlying278
 a35 := Tryz.isAgg278
 z35 := Tryz.sizeOf278
 v35 := Tryz.zeroValue278
 t36 := Tryz.underlying279
 a36 := Tryz.isAgg279
 z36 := Tryz.sizeOf279
 v36 := Tryz.zeroValue279
 t41 := Tryz.underlying283
 a41 := Tryz.isAgg283
 z41 := Tryz.sizeOf283
 v41 := Tryz.zeroValue283
 t44 := Tryz.underlying286
 a44 := Tryz.isAgg286
 z44 := Tryz.sizeOf286
 v44 := Tryz.zeroValue286
 t46 := Tryz.underlying288
 a46 := Tryz.isAgg288
 z46 := Tryz.sizeOf288
 v46 := Tryz.zeroValue288
 t53 := Tryz.underlying325
 a53 := Tryz.isAgg325
 z53 := Tryz.sizeOf325
 v53 := Tryz.zeroValue325
 t57 := Tryz.underlying329
 a57 := Tryz.isAgg329
 z57 := Tryz.sizeOf329
 v57 := Tryz.zeroValue329
 t63 := Tryz.underlying366
 a63 := Tryz.isAgg366
 z63 := Tryz.sizeOf366
 v63 := Tryz.zeroValue366
 t64 := Tryz.underlying38
 a64 := Tryz.isAgg38
 z64 := Tryz.sizeOf38
 v64 := Tryz.zeroValue38 }
theorem Tryz.sortsS (m : Nat) : AnyZ.SortsIn Tryz.prog Tryz.sortedS_ren Fence.wide m :=
 ⟨fun blk off cap ss W hH hblk hsz => callsIn_wide.2 (AnyM.slices_Sort_string Tryz.sortS blk off cap ss W hH hblk hsz),fun p cap W => callsIn_wide.2 (AnyM.slices_Sort_string_none Tryz.sortS p cap W)⟩
def Tryz.keysS0_ren : Go.Shelf.Ren := ⟨fun | 7 => 29 | 10 => 66 | n => n,fun | 23 => 75 | 26 => 9 | 3 => 76 | 28 => 73 | 0 => 0 | 27 => 72 | 33 => 55 | 4 => 4 | n => n,fun | n => n⟩
theorem Tryz.keysS0 : Go.Proofs.SlLaysZ.n7 Tryz.prog Tryz.keysS0_ren := {
 mixed := by kernel_rfl
 f7 := ⟨Tryz.f29.name,by decide,Tryz.func29.trans (congrArg some (by kernel_rfl))⟩
 f10 := ⟨Tryz.f66.name,by decide,Tryz.func66.trans (congrArg some (by kernel_rfl))⟩
 t0 := Tryz.underlying0
 a0 := Tryz.isAgg0
 z0 := Tryz.sizeOf0
 v0 := Tryz.zeroValue0
 t4 := Tryz.underlying4
 a4 := Tryz.isAgg4
 z4 := Tryz.sizeOf4
 v4 := Tryz.zeroValue4
 t23 := Tryz.underlying75
 a23 := Tryz.isAgg75
 z23 := Tryz.sizeOf75
 v23 := Tryz.zeroValue75
 t26 := Tryz.underlying9
 a26 := Tryz.isAgg9
 z26 := Tryz.sizeOf9
 v26 := Tryz.zeroValue9
 t27 := Tryz.underlying72
 a27 := Tryz.isAgg72
 z27 := Tryz.sizeOf72
 v27 := Tryz.zeroValue72
 t28 := Tryz.underlying73
 a28 := Tryz.isAgg73
 z28 := Tryz.sizeOf73
 v28 := Tryz.zeroValue73
 t33 := Tryz.underlying55
 a33 := Tryz.isAgg55
 z33 := Tryz.sizeOf55
 v33 := Tryz.zeroValue55 }
set_option maxHeartbeats 1000000 in
theorem Tryz.keysOk0 : Ab.KeysOk Tryz.prog 28 66 9 where
 key := by kernel_rfl
 enters := enters_of Tryz.func28 (by kernel_rfl) rfl
 some bm b nn D0 R w hbm hc hown hmax hbytes := by
  have hseq : SeqGives Fence.wide 2 Tryz.prog 66 #[.pointer (some ⟨bm,0,none⟩)] encStr (fun ss => ss.Perm (strKeys D0)) (Maps.size D0) w :=
   AnyZ.keys_gives (ρ := Tryz.keysS0_ren) { Tryz.keysS0 with } Fence.wide _ trivial rfl (by omega) bm b nn D0 w hbm hc hown
  exact (callsIn_wide (n := 5)).1 (AnyZ.sorted_in Tryz.sortedS Fence.wide 5 trivial trivial trivial trivial rfl (by omega) (Tryz.sortsS _) (enters_of Tryz.func65 (by kernel_rfl) rfl) 66 #[.pointer (some ⟨bm,0,none⟩)] trivial (enters_of Tryz.func66 (by kernel_rfl) rfl) _ _ hmax hbytes _ hseq)
 none bm w hbm hc := by
  have hseq : SeqGives Fence.wide 2 Tryz.prog 66 #[.pointer (some ⟨bm,0,none⟩)] encStr (fun ss : List (List UInt8) => ss = []) 0 w :=
   AnyZ.keys_gives_nil (ρ := Tryz.keysS0_ren) { Tryz.keysS0 with } Fence.wide _ trivial rfl bm _ hbm hc
  refine ((callsIn_wide (n := 5)).1 (AnyZ.sorted_in Tryz.sortedS Fence.wide 5 trivial trivial trivial trivial rfl (by omega) (Tryz.sortsS _) (enters_of Tryz.func65 (by kernel_rfl) rfl) 66 #[.pointer (some ⟨bm,0,none⟩)] trivial (enters_of Tryz.func66 (by kernel_rfl) rfl) _ 0 (Nat.zero_le _) (by omega) _ hseq)).mono ?_
  rintro e w' ⟨v,ss,rfl,h1,_,h2,h3⟩
  exact ⟨by rw [h2.2 h1],h3⟩
def Tryz.keysS1_ren : Go.Shelf.Ren := ⟨fun | 7 => 128 | 10 => 189 | n => n,fun | 23 => 108 | 26 => 9 | 3 => 114 | 28 => 73 | 0 => 0 | 27 => 72 | 33 => 55 | 4 => 4 | n => n,fun | n => n⟩
theorem Tryz.keysS1 : Go.Proofs.SlLaysZ.n7 Tryz.prog Tryz.keysS1_ren := {
 mixed := by kernel_rfl
 f7 := ⟨Tryz.f128.name,by decide,Tryz.func128.trans (congrArg some (by kernel_rfl))⟩
 f10 := ⟨Tryz.f189.name,by decide,Tryz.func189.trans (congrArg some (by kernel_rfl))⟩
 t0 := Tryz.underlying0
 a0 := Tryz.isAgg0
 z0 := Tryz.sizeOf0
 v0 := Tryz.zeroValue0
 t4 := Tryz.underlying4
 a4 := Tryz.isAgg4
 z4 := Tryz.sizeOf4
 v4 := Tryz.zeroValue4
 t23 := Tryz.underlying108
 a23 := Tryz.isAgg108
 z23 := Tryz.sizeOf108
 v23 := Tryz.zeroValue108
 t26 := Tryz.underlying9
 a26 := Tryz.isAgg9
 z26 := Tryz.sizeOf9
 v26 := Tryz.zeroValue9
 t27 := Tryz.underlying72
 a27 := Tryz.isAgg72
 z27 := Tryz.sizeOf72
 v27 := Tryz.zeroValue72
 t28 := Tryz.underlying73
 a28 := Tryz.isAgg73
 z28 := Tryz.sizeOf73
 v28 := Tryz.zeroValue73
 t33 := Tryz.underlying55
 a33 := Tryz.isAgg55
 z33 := Tryz.sizeOf55
 v33 := Tryz.zeroValue55 }
set_option maxHeartbeats 1000000 in
theorem Tryz.keysOk1 : Ab.KeysOk Tryz.prog 28 189 9 where
 key := by kernel_rfl
 enters := enters_of Tryz.func28 (by kernel_rfl) rfl
 some bm b nn D0 R w hbm hc hown hmax hbytes := by
  have hseq : SeqGives Fence.wide 2 Tryz.prog 189 #[.pointer (some ⟨bm,0,none⟩)] encStr (fun ss => ss.Perm (strKeys D0)) (Maps.size D0) w :=
   AnyZ.keys_gives (ρ := Tryz.keysS1_ren) { Tryz.keysS1 with } Fence.wide _ trivial rfl (by omega) bm b nn D0 w hbm hc hown
  exact (callsIn_wide (n := 5)).1 (AnyZ.sorted_in Tryz.sortedS Fence.wide 5 trivial trivial trivial trivial rfl (by omega) (Tryz.sortsS _) (enters_of Tryz.func65 (by kernel_rfl) rfl) 189 #[.pointer (some ⟨bm,0,none⟩)] trivial (enters_of Tryz.func189 (by kernel_rfl) rfl) _ _ hmax hbytes _ hseq)
 none bm w hbm hc := by
  have hseq : SeqGives Fence.wide 2 Tryz.prog 189 #[.pointer (some ⟨bm,0,none⟩)] encStr (fun ss : List (List UInt8) => ss = []) 0 w :=
   AnyZ.keys_gives_nil (ρ := Tryz.keysS1_ren) { Tryz.keysS1 with } Fence.wide _ trivial rfl bm _ hbm hc
  refine ((callsIn_wide (n := 5)).1 (AnyZ.sorted_in Tryz.sortedS Fence.wide 5 trivial trivial trivial trivial rfl (by omega) (Tryz.sortsS _) (enters_of Tryz.func65 (by kernel_rfl) rfl) 189 #[.pointer (some ⟨bm,0,none⟩)] trivial (enters_of Tryz.func189 (by kernel_rfl) rfl) _ 0 (Nat.zero_le _) (by omega) _ hseq)).mono ?_
  rintro e w' ⟨v,ss,rfl,h1,_,h2,h3⟩
  exact ⟨by rw [h2.2 h1],h3⟩
end Go.Proofs
