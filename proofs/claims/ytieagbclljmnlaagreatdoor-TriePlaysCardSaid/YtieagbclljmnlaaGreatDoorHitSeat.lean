import Derived.Test.YtieagbclljmnlaaGreatDoorLTrie12
import Derived.DeepKeys4
import Derived.Shelf.SlIter.Nil
import Derived.KernelRfl
import Derived.Test.YtieagbclljmnlaaGreatDoorProg
namespace Go.Proofs
open Go.RowKit Go.Maps Go.Sort Go.Shelf Ab
set_option maxRecDepth 100000 in
set_option maxHeartbeats 1000000 in
theorem Tryz.hits1_in (F : Fence) (n : Nat) (h10 : F.fn 55) (hro : F.round = none) (hn : 1 ≤ n) (l Bm b nn : Nat) (D0 : DataW Unit) {R : Value → Option (DataW Unit × List MemPlace)} (K : HitKey Tryz.prog 31) (J Jx : List HitT → World → Prop)
  (hY : ∀ pre x W,J pre W → pre.length < Maps.size D0 → YieldAt F (n - 1) Tryz.prog l #[encH x] W fun e W' =>
   (e = .returned (.bool true) ∧ J (pre ++ [x]) W' ∧ KeepsWalks W W') ∨ (e = .returned (.bool false) ∧ Jx (pre ++ [x]) W'))
  (W : World) (hJ : AbidesFrom W.heap.size J) (hm : W.cell? ⟨Bm,0,none⟩ = some (.map (some b))) (hown : W.ownsMap Tryz.prog 31 R b nn D0) (h0 : J [] W) :
  CallsIn F n Tryz.prog 55 #[.func (.yield l) #[] #[],.pointer (some ⟨Bm,0,none⟩)] W fun e W' => (∃ v,e = .returned v) ∧
   ((∃ hs,HitsAll Tryz.prog 31 D0 hs ∧ J hs W') ∨ (∃ pre,True ∧ Jx pre W')) := by
 refine callsIn_of_wp Tryz.func55 rfl h10 ?_ hro
 simp only [Tryz.ntmps55,List.size_toArray,List.length_cons,List.length_nil,Nat.reduceAdd,Nat.reduceSub,Array.replicate_succ,Array.replicate_zero,List.push_toArray,List.append_toArray,List.nil_append,List.cons_append]
 gi_wp2_with (first
  | (gi_at_range; refine wpListIn_range_own _ rfl _ 59 rfl 31 4 K.keyed Tryz.underlying59 _ b nn _ rfl hown ?_; intro w0 hrg0 hg0 hs0)
  | gi_in)
 go_frame
 gi_loopw [3] (fun _ wr => ∃ (left : Lit → Bool) (cnt : Nat) (ss : List HitT),wr.ranges Tryz.prog 31 R b W.heap.size nn D0 left cnt ∧ ss.length + cnt ≤ Maps.size D0 ∧ CollH Tryz.prog 31 D0 left ss ∧ J ss wr)
  (fun _ wr => wr.rangeLeft b W.heap.size)
 case atStart =>
  exact ⟨_,_,[],hrg0,by simp,CollH.start D0,hJ [] W w0 none h0 hg0 (fun r e => by cases e)⟩
 case round =>
  obtain ⟨left,cnt,ss,hrg,hcs,hC,hJs⟩ := hrel
  gi_wp2_with (first
   | (gi_at_next; refine wpListIn_next_ranges _ rfl _ rfl 31 K.keyed R encH id K.inv (fun v _ _ => ⟨v,rfl⟩) b W.heap.size nn _ _ _ rfl hrg ?_ ?_)
   | gi_in)
  ·
   intro hc0 hl0
   gi_wp2
   go_end0
   exact ⟨⟨_,rfl⟩,.inl ⟨ss,hC.all hl0,hJs⟩⟩
  ·
   intro x c kl yd yp w2 cnt2 hkey hlk hv hat hrg2 hlt hg2 hs2 hen
   have hJ2 : J ss w2 := hJ ss wr w2 (some W.heap.size) hJs hg2 (fun r e => by cases e; exact ⟨Nat.le_refl _,hrg.iter_walk⟩)
   obtain ⟨xs,xl⟩ := x
   have hJ3 : J ss (w2.alloc (.cells #[.string ⟨xs.toArray⟩,.bool xl] 31)) := hJ ss w2 _ none hJ2 (World.grownBy_alloc w2 _ none) (fun r e => by cases e)
   obtain ⟨fn,tmps,assign,body,hy,hR⟩ := hY ss ⟨xs,xl⟩ _ hJ3 (by omega)
   simp only [encH] at hen hy ⊢
   have hrg2a := hrg2.alloc (.cells #[.string ⟨xs.toArray⟩,.bool xl] 31)
   have hC2 := hC.step K hkey hlk hat
   clear hJ3
   rw [← hs2] at *
   gi_wp2
   refine hR.mono ?_
   rintro e W3 (⟨rfl,hJ3,hk3⟩ | ⟨rfl,hJx3⟩)
   ·gi_wp2
    have hrg3 := hrg2a.of_walks hk3
    go_roundw
    case rel => exact ⟨_,cnt2,ss ++ [⟨xs,xl⟩],hrg3,by simp; omega,hC2,hJ3⟩
    case measure => rw [hrg3.left_eq,hrg.left_eq]; exact hlt
   ·gi_wp2
    refine bodyPost_ret (results_none rfl _ _ _) rfl ?_
    exact ⟨⟨_,rfl⟩,.inr ⟨ss ++ [⟨xs,xl⟩],trivial,hJx3⟩⟩
theorem Tryz.hits_stops (F : Fence) (n : Nat) (h10 : F.fn 55) (hro : F.round = none) (hn : 1 ≤ n) (Bm b nn : Nat) (D0 : DataW Unit) {R : Value → Option (DataW Unit × List MemPlace)} (K : HitKey Tryz.prog 31) (w : World) (hBm : Bm < w.heap.size)
  (hm : w.cell? ⟨Bm,0,none⟩ = some (.map (some b))) (hown : w.ownsMap Tryz.prog 31 R b nn D0) :
  SeqStopsK F n Tryz.prog 55 #[.pointer (some ⟨Bm,0,none⟩)] (fun x : HitT => #[encH x]) KeepsWalks (HitsAll Tryz.prog 31 D0) (fun _ => True) (Maps.size D0) w := fun l J Jx W hW hJ _ hY h0 => by
 have hown' : W.ownsMap Tryz.prog 31 R b nn D0 := by
  have hbl := hown.lt
  obtain ⟨es,clock,hb,Ft,hs,hD⟩ := hown
  exact ⟨es,clock,(hW.block b hbl).trans hb,Ft,hs,hD⟩
 exact Tryz.hits1_in F n h10 hro hn l Bm b nn D0 K J Jx hY W hJ ((hW.cell (p := ⟨Bm,0,none⟩) hBm).trans hm) hown' h0
theorem Tryz.info31 : (Tryz.prog.info? 31).map (fun i => (i.zero,i.size,i.bytes)) = some (some (.agg #[.string ⟨#[]⟩,.bool false]),2,24) := by kernel_rfl
attribute [local go_sem] Oper.semAt_some
set_option maxRecDepth 100000 in
set_option maxHeartbeats 2000000 in
theorem Tryz.appendSeqH_in (F : Fence) (n : Nat) (h11 : F.fn 75) (hro : F.round = none) (hn : 2 ≤ n) (g : Nat) (lb : Array Value) (hFg : F.fn g) (eg : ∀ args w,(callFunc g args).run Tryz.prog w = .ok (.enter g args) w)
  (S : List HitT → Prop) (N : Nat) (hN : N ≤ maxLen) (hNb : N * 24 ≤ 140737488355328) (w : World) (hseq : SeqStopsK F (n - 1) Tryz.prog g lb (fun x : HitT => #[encH x]) KeepsWalks S (fun _ => True) N w) :
  CallsIn F n Tryz.prog 75 #[.slice none 0 0,.func (.func g) #[] lb] w fun e w' => ∃ (v : Value) (hs : List HitT),e = .returned v ∧ S hs ∧ hs.length ≤ N ∧ w'.ownsRow w.heap.size 31 2 v hs.length (hs.flatMap cellsH) ∧ (v = .slice none 0 0 ↔ hs = []) ∧ Below w.heap.size w w' := by
 have h1 : 1 ≤ n := by omega
 obtain ⟨i0,hi,hz0,hz1,hz2⟩ := info_parts Tryz.info31
 refine callsIn_of_wp_marks Tryz.func75 rfl h11 ?_ hro
 simp only [Tryz.ntmps75,List.size_toArray,List.length_cons,List.length_nil,Nat.reduceAdd,Nat.reduceSub,Array.replicate_succ,Array.replicate_zero,List.push_toArray,List.append_toArray,List.nil_append,List.cons_append]
 gi_wp2
 have bO := Boxed.new w 26 (.slice none 0 0)
 have hB0 : Below w.heap.size w (w.alloc (.cells #[.slice none 0 0] 26)) := (Below.refl _ w).alloc (Nat.le_refl _) _
 refine wpIn_rangeFunc_ownH hro h1 (gf := g) (lb := lb) rfl hFg eg hseq (fun h k => h.trans k) (fun W l o o' _ hl _ hw => KeepsWalks.putObj o' hl hw) hB0 (fun _ => rfl)
  (fun pre W => ((∃ v,Boxed W w.heap.size 26 v ∧ W.ownsRow w.heap.size 31 2 v pre.length (pre.flatMap cellsH) ∧ (v = .slice none 0 0 ↔ pre = [])) ∧ Below w.heap.size w W) ∧ pre.length ≤ N)
  (fun _ _ _ => False)
  (OwnFrom.and (OwnFrom.and (Own.from (holdsRow_own w.heap.size w.heap.size 26 31 2 (fun pre => pre.length) (fun pre => pre.flatMap cellsH) (fun pre v => v = .slice none 0 0 ↔ pre = [])) _) (ownFrom_below (Nat.le_refl _) (by simp))) (ownFrom_pure _ _))
  (fun _ _ _ _ _ hs _ _ => hs)
  ⟨⟨⟨_,bO,World.ownsRow_nil _ _ _ _,by simp⟩,hB0⟩,Nat.zero_le _⟩
  (fun x a' W => ∃ B,a' = { tmps := #[.slice none 0 0,.func (.func g) #[] lb,.pointer (some ⟨w.heap.size,0,none⟩),undef,.slice none 0 0,.pointer (some ⟨B,0,none⟩),.func (.func g) #[] lb,encH x,undef,undef,undef,undef,undef],defers := [] } ∧ W.heap[B]? = some (.cells #[.string ⟨x.s.toArray⟩,.bool x.l] 31 (0,0)))
  ?ax ?assign ?body ?done ?stop
 case ax =>
  rintro x a' _ W W' row ⟨B,rfl,hB⟩ hg hrow
  refine ⟨B,rfl,(hg.block B (Array.getElem?_eq_some_iff.1 hB).1 fun e => ?_).trans hB⟩
  obtain ⟨_,o,ho,hc⟩ := hrow B e.symm
  rw [hB] at ho; cases ho; cases hc
 case assign =>
  rintro l pre ⟨xs,xl⟩ W K hI hK
  simp only [encH] at hK ⊢
  gi_wp2
  obtain ⟨⟨⟨v,hv,hrow,hnil⟩,hB⟩,hpl⟩ := hI
  exact hK _ _ ((KeepsOthers.alloc W _).from _) (KeepsWalks.alloc _ _) ⟨⟨⟨v,hv.alloc _,hrow.alloc _,hnil⟩,hB.alloc hB.size _⟩,hpl⟩ ⟨W.heap.size,rfl,World.alloc_heap_new W _⟩
 case body =>
  rintro l pre ⟨xs,xl⟩ a' W hl0 _ ⟨⟨⟨v,hv,hrow,hnil⟩,hB⟩,hpl⟩ ⟨B,rfl,hBx⟩ hlt
  have hc := hv.cell
  simp only [encH] at hBx ⊢
  have hb0 : W.cell? ⟨B,0,none⟩ = some (.string ⟨xs.toArray⟩) := by simp [World.cell?,hBx]
  have hb1 : W.cell? ⟨B,1,none⟩ = some (.bool xl) := by simp [World.cell?,hBx]
  gi_wp2_with (gi_at_builtin; refine wpListIn_append_own _ rfl _ _ 26 rfl w.heap.size 31 i0 (.agg #[.string ⟨#[]⟩,.bool false]) 2 24 Tryz.underlying26 hi hz0 hz1 hz2 rfl (by decide) _ _ _ rfl (hrow.alloc _) ⟨W.heap.size,0,none⟩ 1 1 [.string ⟨xs.toArray⟩,.bool xl] rfl rfl (cells_two_new W _ _ _) (by simp [Value.oneCell']) (by omega) (by omega) (by have := hB.size; simp; omega) ?_; intro v' w1 hown' hgrow _; obtain ⟨g',cap',rfl⟩ := ownsRow_succ hown'; obtain ⟨hv1,hv2,hr2,hk2,hb2⟩ := hv.appended (by decide) hrow hB.size (Nat.le_refl _) hown' hgrow; have hc1 := hv1.cell; have hf1 := hv1.frozen)
  exact ⟨hk2.from _,hk2.walks,⟨⟨_,hv2,by simpa [List.flatMap_append] using hr2,by simp⟩,hB.trans hb2⟩,by simp; omega⟩
 case done =>
  rintro D ys W hD hS ⟨⟨⟨v,hv,hrow,hnil⟩,hB⟩,hpl⟩ hK
  have hc := hv.cell
  gi_wp2
  refine ⟨by simp,.inl ⟨_,_,rfl,run_takeDeferred hK,?_⟩⟩
  exact ⟨_,results_tmp rfl _ _ _,v,ys,rfl,hS,hpl,ownsRow_putObj hrow _ hK rfl,hnil,hB.trans (belowK_b (w := w) (Nat.le_refl _) W D _ _ (by simp at hD; omega) hK rfl rfl)⟩
 case stop =>
  rintro D c pre W _ _ h _
  exact h.elim
set_option maxHeartbeats 1000000 in
theorem Tryz.collectH_in (F : Fence) (n : Nat) (h8 : F.fn 53) (h11 : F.fn 75) (hro : F.round = none) (hn : 3 ≤ n) (g : Nat) (lb : Array Value) (hFg : F.fn g) (eg : ∀ args w,(callFunc g args).run Tryz.prog w = .ok (.enter g args) w)
  (S : List HitT → Prop) (N : Nat) (hN : N ≤ maxLen) (hNb : N * 24 ≤ 140737488355328) (w : World) (hseq : SeqStopsK F (n - 1 - 1) Tryz.prog g lb (fun x : HitT => #[encH x]) KeepsWalks S (fun _ => True) N w) :
  CallsIn F n Tryz.prog 53 #[.func (.func g) #[] lb] w fun e w' => ∃ (v : Value) (hs : List HitT),e = .returned v ∧ S hs ∧ hs.length ≤ N ∧ w'.ownsRow w.heap.size 31 2 v hs.length (hs.flatMap cellsH) ∧ (v = .slice none 0 0 ↔ hs = []) ∧ Below w.heap.size w w' := by
 have h1 : 1 ≤ n := by omega
 have eQ : ∀ args w,(callFunc 75 args).run Tryz.prog w = .ok (.enter 75 args) w := enters_of Tryz.func75 (by kernel_rfl) rfl
 refine callsIn_of_wp Tryz.func53 rfl h8 ?_ hro
 simp only [Tryz.ntmps53,List.size_toArray,List.length_cons,List.length_nil,Nat.reduceAdd,Nat.reduceSub,Array.replicate_succ,Array.replicate_zero,List.push_toArray,List.append_toArray,List.nil_append,List.cons_append]
 gi_wp2_with (gi_at_call 75; refine (Tryz.appendSeqH_in F (n - 1) h11 hro (by omega) g lb hFg eg S N hN hNb _ hseq).mono ?_; rintro e w' ⟨v,ss,rfl,hS,hl,hrow,hnil,hb⟩)
 go_ret
 exact ⟨v,ss,rfl,hS,hl,hrow,hnil,hb⟩
def Tryz.sortHit_ren : Go.Shelf.Ren := ⟨fun | 6 => 54 | 15 => 77 | 14 => 76 | 28 => 101 | 29 => 102 | 20 => 93 | 21 => 94 | 22 => 95 | 23 => 96 | 24 => 97 | 25 => 98 | 26 => 99 | 27 => 100 | 46 => 116 | 47 => 117 | 48 => 118 | 49 => 119 | 50 => 120 | 57 => 134 | n => n,fun | 22 => 26 | 24 => 31 | 25 => 72 | 3 => 3 | 39 => 125 | 0 => 0 | 53 => 146 | 55 => 148 | 4 => 4 | 46 => 139 | 45 => 138 | 50 => 143 | 5 => 5 | 9 => 9 | 66 => 160 | 70 => 164 | 76 => 173 | 77 => 174 | n => n,fun | n => n⟩
theorem Tryz.sortHit : Go.Proofs.SlLaysF0.n6 Tryz.prog Tryz.sortHit_ren := {
 mixed := by kernel_rfl
 f6 := ⟨Tryz.f54.name,by decide,Tryz.func54.trans (congrArg some (by kernel_rfl))⟩
 f14 := ⟨Tryz.f76.name,by decide,Tryz.func76.trans (congrArg some (by kernel_rfl))⟩
 f15 := Tryz.func77.trans (congrArg some (by kernel_rfl))
 f20 := ⟨Tryz.f93.name,by decide,Tryz.func93.trans (congrArg some (by kernel_rfl))⟩
 f21 := ⟨Tryz.f94.name,by decide,Tryz.func94.trans (congrArg some (by kernel_rfl))⟩
 f22 := ⟨Tryz.f95.name,by decide,Tryz.func95.trans (congrArg some (by kernel_rfl))⟩
 f23 := ⟨Tryz.f96.name,by decide,Tryz.func96.trans (congrArg some (by kernel_rfl))⟩
 f24 := ⟨Tryz.f97.name,by decide,Tryz.func97.trans (congrArg some (by kernel_rfl))⟩
 f25 := ⟨Tryz.f98.name,by decide,Tryz.func98.trans (congrArg some (by kernel_rfl))⟩
 f26 := ⟨Tryz.f99.name,by decide,Tryz.func99.trans (congrArg some (by kernel_rfl))⟩
 f27 := ⟨Tryz.f100.name,by decide,Tryz.func100.trans (congrArg some (by kernel_rfl))⟩
 f28 := Tryz.func101.trans (congrArg some (by kernel_rfl))
 f29 := Tryz.func102.trans (congrArg some (by kernel_rfl))
 f46 := ⟨Tryz.f116.name,by decide,Tryz.func116.trans (congrArg some (by kernel_rfl))⟩
 f47 := Tryz.func117.trans (congrArg some (by kernel_rfl))
 f48 := Tryz.func118.trans (congrArg some (by kernel_rfl))
 f49 := ⟨Tryz.f119.name,by decide,Tryz.func119.trans (congrArg some (by kernel_rfl))⟩
 f50 := ⟨Tryz.f120.name,by decide,Tryz.func120.trans (congrArg some (by kernel_rfl))⟩
 f57 := ⟨Tryz.f134.name,by decide,Tryz.func134.trans (congrArg some (by kernel_rfl))⟩
 t0 := Tryz.underlying0
 a0 := Tryz.isAgg0
 z0 := Tryz.sizeOf0
 v0 := Tryz.zeroValue0
 t3 := Tryz.underlying3
 a3 := Tryz.isAgg3
 z3 := Tryz.sizeOf3
 v3 := Tryz.zeroValue3
 t4 := Tryz.underlying4
 a4 := Tryz.isAgg4
 z4 := Tryz.sizeOf4
 v4 := Tryz.zeroValue4
 t5 := Tryz.underlying5
 a5 := Tryz.isAgg5
 z5 := Tryz.sizeOf5
 v5 := Tryz.zeroValue5
 t9 := Tryz.underlying9
 a9 := Tryz.isAgg9
 z9 := Tryz.sizeOf9
 v9 := Tryz.zeroValue9
 t22 := Tryz.underlying26
 a22 := Tryz.isAgg26
 z22 := Tryz.sizeOf26
 v22 := Tryz.zeroValue26
 t25 := Tryz.underlying72
 a25 := Tryz.isAgg72
 z25 := Tryz.sizeOf72
 v25 := Tryz.zeroValue72
 t39 := Tryz.underlying125
 a39 := Tryz.isAgg125
 z39 := Tryz.sizeOf125
 v39 := Tryz.zeroValue125
 t45 := Tryz.underlying138
 a45 := Tryz.isAgg138
 z45 := Tryz.sizeOf138
 v45 := Tryz.zeroValue138
 t46 := Tryz.underlying139
 a46 := Tryz.isAgg139
 z46 := Tryz.sizeOf139
 v46 := Tryz.zeroValue139
 t50 := Tryz.underlying143
 a50 := Tryz.isAgg143
 z50 := Tryz.sizeOf143
 v50 := Tryz.zeroValue143
 t53 := Tryz.underlying146
 a53 := Tryz.isAgg146
 z53 := Tryz.sizeOf146
 v53 := Tryz.zeroValue146
 t55 := Tryz.underlying148
 a55 := Tryz.isAgg148
 z55 := Tryz.sizeOf148
 v55 := Tryz.zeroValue148
 t66 := Tryz.underlying160
 a66 := Tryz.isAgg160
 z66 := Tryz.sizeOf160
 v66 := Tryz.zeroValue160
 t70 := Tryz.underlying164
 a70 := Tryz.isAgg164
 z70 := Tryz.sizeOf164
 v70 := Tryz.zeroValue164
 t76 := Tryz.underlying173
 a76 := Tryz.isAgg173
 z76 := Tryz.sizeOf173
 v76 := Tryz.zeroValue173
 t77 := Tryz.underlying174
 a77 := Tryz.isAgg174
 z77 := Tryz.sizeOf174
 v77 := Tryz.zeroValue174 }
theorem Tryz.sortsHit : SortsH Tryz.prog 54 34 where
 none p cap fv w := AnyF.slices_SortFunc_none Tryz.sortHit p cap fv w
 some α _ enc hk h1 cf hO blk cap d w hcmp hH hblk hsz hT := AnyQ.slices_SortFunc_total Tryz.sortHit 2 Tryz.isAgg31 Tryz.sizeOf31 enc hk h1 cf hO 34 #[] blk 0 cap d w (enters_of Tryz.func34 (by kernel_rfl) rfl) hcmp hH hblk hsz hT
theorem Tryz.laidOut : laidOutB Tryz.prog = true := by kernel_rfl
theorem Tryz.hitKey : HitKey Tryz.prog 31 :=
 hitKey_of (Keyed.of_law (deep_law_laid Tryz.laidOut (m := 2) (by omega) (of_decide_eq_true (by kernel_rfl)) (by kernel_rfl) (by rw [Tryz.underlying31]))) Tryz.underlying31 (by decide) (by decide) rfl rfl rfl rfl Tryz.underlying9 Tryz.underlying4 (by kernel_rfl) (by kernel_rfl) (by kernel_rfl) (by kernel_rfl) (of_decide_eq_true (by kernel_rfl))
set_option maxHeartbeats 1000000 in
theorem Tryz.sortedH_in (g : Nat) (lb : Array Value) (eg : ∀ args w,(callFunc g args).run Tryz.prog w = .ok (.enter g args) w) (S : List HitT → Prop) (N : Nat) (hN : N ≤ lim) (w : World) (hseq : SeqStopsK Fence.wide 2 Tryz.prog g lb (fun x : HitT => #[encH x]) KeepsWalks S (fun _ => True) N w) (hcmp : ∀ hs,S hs → CmpsH Tryz.prog 34 hs w.heap.size w) :
  CallsIn Fence.wide 5 Tryz.prog 32 #[.func (.func g) #[] lb,.func (.func 34) #[] #[]] w fun e w' => ∃ (v : Value) (hs : List HitT),e = .returned v ∧ S hs ∧ w'.ownsRow w.heap.size 31 2 v hs.length ((sortT hs).flatMap cellsH) ∧ (v = .slice none 0 0 ↔ hs = []) ∧ Below w.heap.size w w' := by
 have h1 : 1 ≤ 5 := by omega
 have hfC : Fence.wide.fn 53 := trivial
 have hfF : Fence.wide.fn 54 := trivial
 have lim_eq : lim = 1073741824 := rfl
 have eC : ∀ args w,(callFunc 53 args).run Tryz.prog w = .ok (.enter 53 args) w := enters_of Tryz.func53 (by kernel_rfl) rfl
 have eF : ∀ args w,(callFunc 54 args).run Tryz.prog w = .ok (.enter 54 args) w := enters_of Tryz.func54 (by kernel_rfl) rfl
 refine callsIn_of_wp Tryz.func32 rfl trivial ?_ rfl
 simp only [Tryz.ntmps32,List.size_toArray,List.length_cons,List.length_nil,Nat.reduceAdd,Nat.reduceSub,Array.replicate_succ,Array.replicate_zero,List.push_toArray,List.append_toArray,List.nil_append,List.cons_append]
 gi_wp2_with (gi_at_call 53; refine (Tryz.collectH_in Fence.wide 4 trivial trivial rfl (by omega) g lb trivial eg S N (Nat.le_trans hN (by decide)) (by omega) _ hseq).mono ?_; rintro e W ⟨v,ss,rfl,hS,hlen,hrow,hnil,hb⟩)
 rcases hrow.2 with ⟨rfl,hz⟩ | ⟨gb,cap,cur,rfl,hbase,hgb,r1,r2,r3,r4⟩
 ·have hss : ss = [] := List.eq_nil_of_length_eq_zero hz
  subst hss
  gi_wp2_with (gi_at_call 54; refine (callsIn_wide.2 (Tryz.sortsHit.none none 0 _ W)).mono ?_; rintro e w' ⟨rfl,rfl⟩)
  go_ret
  exact ⟨.slice none 0 0,[],rfl,hS,by simpa [sortT] using hrow,by simp,hb⟩
 ·have hne : ss ≠ [] := fun e => by subst e; exact absurd (hnil.2 rfl) (by simp)
  have cS := sorted_at Tryz.sortsHit hgb hbase r1 r2 r3 r4 (fun x hx y hy W' hW' => hcmp ss hS x hx y hy W' (hb.trans hW')) hne (by omega)
  gi_wp2_with (gi_at_call 54; refine (callsIn_wide.2 cS).mono ?_; rintro e w' ⟨rfl,hrow2,hb2⟩)
  go_ret
  exact ⟨_,ss,rfl,hS,hrow2,hnil,hb.trans hb2⟩
theorem Tryz.hitsOk : HitsOk Tryz.prog 32 55 34 31 where
 key := Tryz.hitKey
 enters := enters_of Tryz.func32 (by kernel_rfl) rfl
 cmp := enters_of Tryz.func34 (by kernel_rfl) rfl
 some bm b nn D0 w hbm hc hown hmax hcmp :=
  (callsIn_wide (n := 5)).1 (Tryz.sortedH_in 55 #[.pointer (some ⟨bm,0,none⟩)] (enters_of Tryz.func55 (by kernel_rfl) rfl) _ _ hmax w (Tryz.hits_stops Fence.wide 2 trivial rfl (by omega) bm b nn D0 Tryz.hitKey w hbm hc hown) hcmp)
end Go.Proofs
